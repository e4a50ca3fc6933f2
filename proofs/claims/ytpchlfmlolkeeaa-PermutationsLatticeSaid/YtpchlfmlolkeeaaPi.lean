/-
  Texts that belong together: Pf7, Pf8.
-/
import Derived.Test.YtpchlfmlolkeeaaPh
set_option linter.unusedSimpArgs false
set_option linter.unusedVariables false
namespace Go.Proofs.Ytpchlfmlolkeeaa
open Go Go.RowKit Go.Am
set_option linter.unusedSimpArgs false
set_option linter.unusedVariables false
set_option maxRecDepth 20000
set_option maxHeartbeats 4000000
theorem c47 (i : Int) (hp : 0 ≤ i ∧ i < 256) : PCalls Try.prog 47 [.int .i64 i] (fun d => d = .int .u8 i) := by
  refine PCalls.go ok ck22 (c := d47) (rs := r47) Try.func47 rfl (by kernel_rfl) (by kernel_rfl) rfl rfl rfl ?_
  simp (config := { maxSteps := 20000000 }) only [d47, r47, go_nil, go_reg, go_seq, go_ret, go_ops0, go_opsK, keepM_nil, keepM_lo, FB, Nat.reducePow, Nat.reduceDiv, Nat.reduceMod, go_opsP, endP, unl, wantD, dpure, ev, lk, putD, argsD, nbeqB,  ↓cond_true, ↓cond_false, Option.map_some, sideP, fnQ, dress, dres1, unl, finDV, frzV, sidesP, DV.kill, decide_false, beq_self_eq_true, eq_self, Nat.reduceLeDiff, Nat.reduceBEq]
  rw [wrapU8 (by omega)]

def up0 (n : Nat) : List Int := (List.range n).map fun j : Nat => (j : Int)
/-- What is crossed so far crosses in both. -/
def Rm (p q : List Int) (u v : Int) : Prop := v < u → p.getD u.toNat 0 < p.getD v.toNat 0 ∧ q.getD u.toNat 0 < q.getD v.toNat 0
def crs (p a : List Int) (k : Nat) : Bool := decide (a.getD k 0 < a.getD (k + 1) 0) && decide (p.getD (a.getD (k + 1) 0).toNat 0 < p.getD (a.getD k 0).toNat 0)
def Cm (p q a : List Int) (k : Nat) : Prop := crs p a k = true ∧ crs q a k = true
theorem nInv_up : ∀ (l : List Int) (k : Nat), k + 1 < l.length → l.getD k 0 < l.getD (k + 1) 0 → nInv (swp l k) = nInv l + 1
  | [], k, h, _ => by simp at h
  | [x], k, h, _ => by simp at h
  | x :: y :: l, 0, _, h2 => by
    rw [swp_zero]
    simp only [nInv, List.countP_cons]
    simp at h2
    have h3 : ¬ y < x := by omega
    simp [h2, h3]
    omega
  | z :: l, k + 1, h, h2 => by
    have hl : k + 1 < l.length := by simpa using h
    rw [swp_succ]
    simp only [nInv]
    rw [(swp_perm l k hl).countP_eq]
    have := nInv_up l k hl (by simpa using h2)
    omega
theorem pw_swp {R : Int → Int → Prop} : ∀ (l : List Int) (k : Nat), k + 1 < l.length → l.Pairwise R → R (l.getD (k + 1) 0) (l.getD k 0) → (swp l k).Pairwise R
  | [], k, h, _, _ => by simp at h
  | [x], k, h, _, _ => by simp at h
  | x :: y :: l, 0, _, hp, hr => by
    rw [swp_zero]
    simp only [List.pairwise_cons, List.mem_cons, forall_eq_or_imp] at hp ⊢
    exact ⟨⟨by simpa using hr, hp.2.1⟩, hp.1.2, hp.2.2⟩
  | z :: l, k + 1, h, hp, hr => by
    have hl : k + 1 < l.length := by simpa using h
    rw [swp_succ]
    simp only [List.pairwise_cons] at hp ⊢
    exact ⟨fun w hw => hp.1 w ((swp_perm l k hl).mem_iff.1 hw), pw_swp l k hl hp.2 (by simpa using hr)⟩
theorem up0_get {a : List Int} {n : Nat} (h : a.Perm (up0 n)) {i : Nat} (hi : i < n) : 0 ≤ a.getD i 0 ∧ a.getD i 0 < n := by
  have hl : a.length = n := by rw [h.length_eq]; simp [up0]
  have e : a.getD i 0 = a[i]'(by omega) := by simp [hl, hi]
  rw [e]
  have := h.mem_iff.1 (List.getElem_mem (l := a) (n := i) (by omega))
  simp only [up0, List.mem_map, List.mem_range] at this
  obtain ⟨j, hj, hj2⟩ := this
  omega
theorem up0_perm {a : List Int} {n : Nat} (h : a.Perm (up0 n)) (hn : 1 ≤ n ∧ n ≤ 8) : Perm (a.map (· + 1)) := by
  have hl : a.length = n := by rw [h.length_eq]; simp [up0]
  have hm : ∀ x, x ∈ a ↔ ∃ j : Nat, j < n ∧ (j : Int) = x := fun x => by rw [h.mem_iff]; simp [up0]
  refine ⟨by simpa [hl] using hn, fun x hx => ?_, fun i hi => ?_, ?_⟩
  · obtain ⟨y, hy, rfl⟩ := List.mem_map.1 hx
    obtain ⟨j, hj, rfl⟩ := (hm y).1 hy
    simp only [List.length_map, hl]
    omega
  · simp only [List.length_map, hl] at hi
    exact List.mem_map.2 ⟨(i : Int), (hm _).2 ⟨i, hi, rfl⟩, rfl⟩
  · have nd : a.Nodup := by
      rw [h.nodup_iff]
      unfold up0
      rw [List.nodup_iff_pairwise_ne, List.pairwise_map]
      exact List.Pairwise.imp_of_mem (fun {a b} _ _ hab e => by omega) (List.pairwise_lt_range (n := n))
    rw [List.nodup_iff_pairwise_ne] at nd ⊢
    rw [List.pairwise_map]
    exact nd.imp fun hab e => hab (by omega)


theorem c31 (p q : Sl Int) (hp : Perm p.l) (hq : Perm q.l) (hpq : q.l.length = p.l.length) : PCalls Try.prog 31 [.sl (.int .u8) p, .sl (.int .u8) q] (fun d => ∃ at' : List Int, at'.Perm (up0 p.l.length) ∧ at'.Pairwise (Rm p.l q.l) ∧ (∀ i, i + 1 < p.l.length → ¬ Cm p.l q.l at' i) ∧ d = .sl (.int .u8) (backS (at'.map (· + 1)))) := by
  refine PCalls.go ok ck22 (c := d31) (rs := r31) Try.func31 rfl (by kernel_rfl) (by kernel_rfl) rfl rfl rfl ?_
  have hl := hp.len
  simp (config := { maxSteps := 20000000 }) only [d31, r31, go_reg, go_seq, go_ops0, go_opsP, go_opsC, endP, tgtD, callD, wantD, dpure, ev, evs, lk, putD, argsD, nbeqB,  ↓cond_true, ↓cond_false, Option.map_some, sideP, lenD, Ty.D, Nat.zero_add, beq_self_eq_true, Nat.reduceBEq, CO22, CO21, CO15, CO50, CO35, CO30, CO42, CO43, CO39, CO14, CO8, CO9, CO24, CO25, CO26, CO27, CO12, CO40, CO36, CO37, CO16, CO17, CO45, CO20, CO38, CO18, CO19, CO0]
  refine goI_in ok ck22 (c := d33) (rs := r33) Try.func33 rfl (by kernel_rfl) (by kernel_rfl) rfl rfl ?_
  simp (config := { maxSteps := 20000000 }) only [d33, r33, shT, go_reg, go_seq, go_block, go_loop, go_ops0, go_opsK, keepM_nil, keepM_hi, keepM_lo, FB, Nat.reducePow, Nat.reduceDiv, Nat.reduceMod, go_opsP, go_opsE, unS_and, nilqD, eff1, List.map_cons, List.map_nil, wantD, dpure, ev, lk, putD, killT, newO, argsD, nbeqB,  ↓cond_true, ↓cond_false, Option.map_some, sideP, Ty.zero, Ty.D, decide_true, decide_false, Nat.reduceAdd, Nat.zero_add, beq_self_eq_true, List.nil_append, List.cons_append, eq_self, Nat.reduceLeDiff, Nat.le_refl, Nat.reduceBEq]
  refine ⟨⟨by omega, by omega, by omega, by omega⟩, ?_⟩
  rw [Int.toNat_natCast]
  refine DWc.loopG ok ck22 (α := Nat) (fun i => ⟨[(10, .int .i64 (i : Int)), (9, .int .i64 (p.l.length : Int)), (5, .osl 3 (.int .u8) 0 p.l.length (some p.l.length)), (1, .clo 47 [] []), (4096, .sl (.int .u8) p), (4097, .sl (.int .u8) q)], ⟨4, 0, [(3, .arr (.int .u8) ((List.range i).map (fun j : Nat => (j : Int)) ++ List.replicate (p.l.length - i) (0 : Int) : List Int))]⟩⟩) (fun i => i ≤ p.l.length) (fun i => p.l.length - i) 0 ?_ ?_ ?_
  · refine DEnt.of ?_; simp only [entD, entS, entO, Loc.kill, lk, lkO, Loc.kill, nbeqB,  ↓cond_true, ↓cond_false, DV.kill, DV.killL, geN, beq_self_eq_true, Nat.ble, eq_self, and_true, true_and, and_self, Nat.zero_le, Nat.reduceBEq, DV.int.injEq, true_and, and_true, eq_self]
    exact ⟨by omega, by simp⟩
  · exact Nat.zero_le _
  · intro i hi
    have e1 : IntKind.i64.wrap ((i : Int) + 1) = (i : Int) + 1 := wrap64' (by omega)
    simp (config := { maxSteps := 20000000 }) only [l33_0, inQ, dresL, unT, go_nil, go_skip, go_reg, go_seq, go_cond, go_block, go_loop, go_exit, go_ret, go_gh, go_codeX, go_ops0, go_opsK, keepM_nil, keepM_lo, FB, Nat.reducePow, Nat.reduceDiv, Nat.reduceMod, go_opsP, go_opsE, go_opsC, go_blkX, go_rndX, tgtD, unl, callD, nilqD, eff1, eStore, gh1, wantD, dpure, ev, evs, lk, putD, killT, lkO, stO, newO, setO, nbeqB,  ↓cond_true, ↓cond_false, Option.map_some, sideP, dBin, DV.cellA, DV.cell, setAllD, dres1, unl, finDV, sidesP, decide_true, decide_false, Nat.reduceAdd, Nat.zero_add, beq_self_eq_true, Bool.and_self, List.append_nil, List.nil_append, Nat.ble, List.length_cons, List.length_nil, List.all_cons, List.all_nil, eq_self, List.set_cons_zero, true_and, Nat.reduceSub, Nat.reduceLeDiff, Nat.le_refl, Nat.reduceBEq, CO22, CO21, CO15, CO50, CO35, CO30, CO42, CO43, CO39, CO14, CO8, CO9, CO24, CO25, CO26, CO27, CO12, CO40, CO36, CO37, CO16, CO17, CO45, CO20, CO38, CO18, CO19, CO0, brB_eq, decide_eq_true_eq, decide_eq_false_iff_not, Int.not_lt, true_and, eq_self]
    refine ⟨fun h => ?_, fun h => ?_⟩
    · refine goI_pure (c47 i (by omega)) ?_
      rintro _ rfl
      simp (config := { maxSteps := 20000000 }) only [e1, go_reg, go_ops0, go_opsK, keepM_nil, keepM_hi, keepM_lo, FB, Nat.reducePow, Nat.reduceDiv, Nat.reduceMod, go_opsP, go_opsE, go_blkN, go_rndN, unS_and, nilqD, eff1, eStore, wantD, dpure, ev, lk, putD, killT, lkO, stO, setO, nbeqB,  ↓cond_true, ↓cond_false, Option.map_some, sideP, dBin, dIdx, asTy, unflat, DV.cellA, DV.cell, setAllD, flat, Ty.size, Ty.zero, Ty.D, decide_true, decide_false, Nat.zero_add, beq_self_eq_true, Bool.and_self, if_true, Nat.ble, List.length_cons, List.length_nil, List.all_cons, List.all_nil, dite_true, eq_self, List.set_cons_zero, Nat.reduceLeDiff, Nat.le_refl, Nat.reduceBEq, Int.toNat_natCast, eq_self]
      refine ⟨⟨by omega, by omega⟩, by simp; omega, i + 1, by omega, by omega, ?_⟩
      rw [mapRep_set (fun j : Nat => (j : Int)) p.l.length i (by omega)]
      refine DEnt.of ?_; simp only [entD, entS, entO, Loc.kill, lk, lkO, Loc.kill, nbeqB,  ↓cond_true, ↓cond_false, DV.kill, DV.killL, geN, beq_self_eq_true, Nat.ble, eq_self, and_true, true_and, and_self, Nat.zero_le, Nat.reduceBEq, DV.int.injEq, true_and, and_true, eq_self]
      rfl
    · have hin : i = p.l.length := by omega
      subst hin
      rw [Nat.sub_self, List.replicate_zero, List.append_nil]
      refine DWc.loopG ok ck22 (α := Nat × List Int) (fun x => ⟨[(7, .int .i64 (x.1 : Int)), (6, .clo 48 [] [.bptr 4 0]), (5, .bptr 4 0), (0, .sl (.int .u8) p), (1, .sl (.int .u8) q)], ⟨5, 0, [(4, .box [.osl 3 (.int .u8) 0 p.l.length (some p.l.length)]), (3, .arr (.int .u8) x.2)]⟩⟩)
        (fun x => x.1 + 1 ≤ p.l.length ∧ x.2.Perm (up0 p.l.length) ∧ x.2.Pairwise (Rm p.l q.l) ∧ ∀ i, i < x.1 → ¬ Cm p.l q.l x.2 i) (fun x => (65 - nInv x.2) * (p.l.length + 1) + (p.l.length - x.1)) (0, up0 p.l.length) ?_ ?_ ?_
      · refine DEnt.of ?_; simp only [entD, entS, entO, Loc.kill, lk, lkO, Loc.kill, nbeqB,  ↓cond_true, ↓cond_false, DV.kill, DV.killL, geN, beq_self_eq_true, Nat.ble, eq_self, and_true, true_and, and_self, Nat.zero_le, Nat.reduceBEq, DV.int.injEq, true_and, and_true, eq_self]
        exact ⟨rfl, rfl⟩
      · refine ⟨hl.1, List.Perm.refl _, ?_, fun i hi => absurd hi (Nat.not_lt_zero _)⟩
        show (up0 p.l.length).Pairwise _
        unfold up0
        rw [List.pairwise_map]
        exact List.Pairwise.imp_of_mem (fun {a b} _ _ hab h => by omega) (List.pairwise_lt_range (n := p.l.length))
      · rintro ⟨k, a⟩ ⟨k1, k2, k3, k4⟩
        simp only at k1 k2 k3 k4
        have la : a.length = p.l.length := by rw [k2.length_eq]; simp [up0]
        have ga : ∀ i, i < p.l.length → 0 ≤ a.getD i 0 ∧ a.getD i 0 < p.l.length := fun i hi => up0_get k2 hi
        have e1 : IntKind.i64.wrap ((k : Int) + 1) = (k : Int) + 1 := wrap64' (by omega)
        have e2 : IntKind.i64.wrap ((k : Int) - 2) = (k : Int) - 2 := wrap64' (by omega)
        have e3 : IntKind.i64.wrap (max ((k : Int) - 2) (-1) + 1) = ((k - 1 : Nat) : Int) := by rw [wrap64' (by omega)]; omega
        have e4 : ((k : Int) + 1).toNat = k + 1 := by omega
        simp (config := { maxSteps := 20000000 }) only [e1, l31_0, go_nil, go_skip, go_reg, go_seq, go_cond, go_block, go_exit, go_codeX, go_ops0, go_opsK, keepM_nil, keepM_lo, FB, Nat.reducePow, Nat.reduceDiv, Nat.reduceMod, go_opsP, go_opsC, go_blkX, go_rndX, unS_and, tgtD, callD, wantD, dpure, ev, evs, lk, putD, lkO, nbeqB,  ↓cond_true, ↓cond_false, Option.map_some, sideP, lenD, dBin, dLoad, decide_true, decide_false, beq_self_eq_true, List.nil_append, List.cons_append, eq_self, List.getElem?_cons_zero, Nat.reduceLeDiff, Int.reduceNeg, Nat.reduceBEq, CO22, CO21, CO15, CO50, CO35, CO30, CO42, CO43, CO39, CO14, CO8, CO9, CO24, CO25, CO26, CO27, CO12, CO40, CO36, CO37, CO16, CO17, CO45, CO20, CO38, CO18, CO19, CO0, brB_eq, decide_eq_true_eq, decide_eq_false_iff_not, Int.not_lt, eq_self]
        refine ⟨fun h => ?_, fun h => ?_⟩
        · have g1 := ga k (by omega)
          have g2 := ga (k + 1) (by omega)
          refine goI_in ok ck22 (c := d48) (rs := r48) Try.func48 rfl (by kernel_rfl) (by kernel_rfl) rfl rfl ?_
          simp (config := { maxSteps := 20000000 }) only [e1, e4, d48, r48, inQ, dresL, shT, unT, go_nil, go_skip, go_reg, go_seq, go_cond, go_ret, go_ops0, go_opsK, go_opsM, keepM_nil, keepM_hi, keepM_lo, dropM_nil, dropM_hi, dropM_lo, FB, Nat.reducePow, Nat.reduceDiv, Nat.reduceMod, go_opsP, go_opsC, go_blkN, go_rndN, ↓brB_false, ↓brM_true, ↓brM_false, unS_stp, unS_and, brM_mm, brM_sm, and_goS, bif_ff, tgtD, unl, callD, List.map_cons, List.map_nil, wantD, dpure, ev, evs, lk, putD, lkO, argsD, nbeqB,  ↓cond_true, ↓cond_false, Option.map_some, sideP, dBin, dIdx, dLoad, dPick, subT, flat, Ty.size, Ty.isAgg, Ty.zero, Ty.D, dres1, unl, finDV, sidesP, decide_true, decide_false, Nat.reduceAdd, Nat.zero_add, beq_self_eq_true, bFT, Bool.and_self, Bool.and_true, List.nil_append, List.cons_append, List.getD_cons_zero, dite_true, eq_self, List.getElem?_cons_zero, Nat.reduceSub, Nat.reduceLeDiff, Nat.le_refl, Int.reduceNeg, Nat.reduceBEq, CO22, CO21, CO15, CO50, CO35, CO30, CO42, CO43, CO39, CO14, CO8, CO9, CO24, CO25, CO26, CO27, CO12, CO40, CO36, CO37, CO16, CO17, CO45, CO20, CO38, CO18, CO19, CO0, decide_eq_true_eq, Int.toNat_natCast, eq_self]
          refine ⟨⟨by omega, by omega⟩, by omega, ⟨by omega, by omega⟩, by omega, fun _ => ⟨⟨by omega, by omega⟩, by omega, ⟨g1.1, g1.2⟩, ⟨by omega, by omega⟩, by omega, g2.1, g2.2⟩, ?_⟩
          rw [brM_eq]
          have next : ¬ Cm p.l q.l a k → ∀ i, i < k + 1 → ¬ Cm p.l q.l a i := fun hc i hi => by
            rcases Nat.lt_or_ge i k with r | r
            · exact k4 i r
            · rw [show i = k by omega]; exact hc
          refine ⟨fun hw => ?_, fun hw => ?_⟩
          · show goI _ _ _ _ _ _ _ _ _ _
            refine goI_in ok ck22 (c := d48) (rs := r48) Try.func48 rfl (by kernel_rfl) (by kernel_rfl) rfl rfl ?_
            simp (config := { maxSteps := 20000000 }) only [goS, e1, e2, e3, e4, d48, r48, inQ, dresL, shT, unT, go_nil, go_skip, go_reg, go_seq, go_cond, go_ret, go_ops0, go_opsK, go_opsM, keepM_nil, keepM_hi, keepM_lo, dropM_nil, dropM_hi, dropM_lo, FB, Nat.reducePow, Nat.reduceDiv, Nat.reduceMod, go_opsG8, exsB, diffP, go_opsP, go_opsE, go_blkN, go_rndN, ↓brB_true, ↓brB_false, ↓brM_true, ↓brM_false, unS_and, unl, nilqD, eff1, eStore, gh1, List.map_cons, List.map_nil, wantD, dpure, ev, evs, lk, putD, killT, lkO, stO, setO, argsD, nbeqB,  ↓cond_true, ↓cond_false, Option.map_some, sideP, dBin, dIdx, dLoad, dPick, asTy, unflat, DV.cellA, DV.cell, setAllD, dMm, dMmGo, subT, flat, Ty.size, Ty.isAgg, Ty.zero, Ty.D, dres1, unl, finDV, sidesP, decide_true, decide_false, Nat.reduceAdd, Nat.zero_add, beq_self_eq_true, bFT, Bool.and_self, if_true, List.nil_append, List.cons_append, Nat.ble, List.length_cons, List.length_nil, List.all_cons, List.all_nil, List.getD_cons_zero, dite_true, eq_self, List.getElem?_cons_zero, List.set_cons_zero, true_and, Nat.reduceSub, Nat.reduceLeDiff, Bool.not_false, Nat.le_refl, Int.reduceNeg, Nat.reduceBEq, brB_eq, decide_eq_true_eq, decide_eq_false_iff_not, Int.not_lt, Int.toNat_natCast, true_and, eq_self, Bool.not_false]
            simp only [Bool.and_eq_true, decide_eq_true_eq] at hw
            refine ⟨⟨by omega, by omega⟩, by omega, ⟨by omega, by omega⟩, by omega, ?_⟩
            rw [decide_eq_true hw.1, brM_true]
            unfold unS
            refine ⟨⟨by omega, by omega⟩, by omega, ⟨by omega, by omega⟩, ⟨by omega, by omega⟩, by omega, ⟨by omega, by omega⟩, fun h2 => ?_, fun h2 => ?_⟩
            · have up := nInv_up a k (by omega) hw.1
              have nb : nInv (swp a k) ≤ 64 := by
                rw [← invL_nInv]
                exact invL_len _ (by rw [swp_len]; omega)
              refine ⟨⟨by omega, by omega⟩, by omega, ⟨by omega, by omega⟩, by omega, ⟨by omega, by omega⟩, by omega, ⟨by omega, by omega⟩, by rw [List.length_set]; omega, (k - 1, swp a k), ?_, ⟨by omega, (swp_perm a k (by omega)).trans k2, pw_swp a k (by omega) k3 (fun _ => ⟨hw.2, h2⟩), fun i hi hc => ?_⟩, ?_⟩
              · simp only
                have : 65 - nInv a = (65 - nInv (swp a k)) + 1 := by omega
                rw [this, Nat.add_mul, Nat.one_mul]
                omega
              · have hi : i < k - 1 := hi
                refine k4 i (by omega) ?_
                unfold Cm crs at hc ⊢
                rw [swp_get a k i (by omega) (by omega), swp_get a k (i + 1) (by omega) (by omega)] at hc
                exact hc
              · refine DEnt.of ?_; simp only [entD, entS, entO, Loc.kill, lk, lkO, Loc.kill, nbeqB,  ↓cond_true, ↓cond_false, DV.kill, DV.killL, geN, beq_self_eq_true, Nat.ble, eq_self, and_true, true_and, and_self, Nat.zero_le, Nat.reduceBEq, true_and, and_true, eq_self]
                rfl
            · have hc : ¬ Cm p.l q.l a k := by
                rintro ⟨_, c2⟩
                unfold crs at c2
                simp only [Bool.and_eq_true, decide_eq_true_eq] at c2
                omega
              refine ⟨(k + 1, a), by simp only; omega, ⟨by omega, k2, k3, next hc⟩, ?_⟩
              refine DEnt.of ?_; simp only [entD, entS, entO, Loc.kill, lk, lkO, Loc.kill, nbeqB,  ↓cond_true, ↓cond_false, DV.kill, DV.killL, geN, beq_self_eq_true, Nat.ble, eq_self, and_true, true_and, and_self, Nat.zero_le, Nat.reduceBEq, DV.int.injEq, true_and, and_true, eq_self]
              rfl
          · rw [unS_stp]
            simp (config := { maxSteps := 20000000 }) only [e1, go_skip, go_reg, go_cond, go_ops0, go_opsK, keepM_nil, keepM_lo, FB, Nat.reducePow, Nat.reduceDiv, Nat.reduceMod, go_opsP, go_blkN, go_rndN, ↓brB_false, wantD, dpure, ev, lk, putD, nbeqB,  ↓cond_true, ↓cond_false, Option.map_some, sideP, dBin, decide_true, decide_false, beq_self_eq_true, eq_self, Nat.reduceLeDiff, Int.reduceNeg, Nat.reduceBEq, eq_self]
            have hc : ¬ Cm p.l q.l a k := by
              rintro ⟨c1, _⟩
              unfold crs at c1
              rw [hw] at c1
              cases c1
            refine ⟨(k + 1, a), by simp only; omega, ⟨by omega, k2, k3, next hc⟩, ?_⟩
            refine DEnt.of ?_; simp only [entD, entS, entO, Loc.kill, lk, lkO, Loc.kill, nbeqB,  ↓cond_true, ↓cond_false, DV.kill, DV.killL, geN, beq_self_eq_true, Nat.ble, eq_self, and_true, true_and, and_self, Nat.zero_le, Nat.reduceBEq, DV.int.injEq, true_and, and_true, eq_self]
            rfl
        · refine goI_in ok ck22 (c := d33) (rs := r33) Try.func33 rfl (by kernel_rfl) (by kernel_rfl) rfl rfl ?_
          simp (config := { maxSteps := 20000000 }) only [d33, r33, shT, go_reg, go_seq, go_block, go_loop, go_ops0, go_opsK, keepM_nil, keepM_hi, keepM_lo, FB, Nat.reducePow, Nat.reduceDiv, Nat.reduceMod, go_opsP, go_opsE, unS_and, nilqD, eff1, List.map_cons, List.map_nil, wantD, dpure, ev, lk, putD, killT, newO, argsD, nbeqB,  ↓cond_true, ↓cond_false, Option.map_some, sideP, Ty.zero, Ty.D, decide_true, decide_false, Nat.reduceAdd, Nat.zero_add, beq_self_eq_true, List.nil_append, List.cons_append, eq_self, Nat.reduceLeDiff, Nat.le_refl, Nat.reduceBEq]
          refine ⟨⟨by omega, by omega, by omega, by omega⟩, ?_⟩
          rw [Int.toNat_natCast]
          refine DWc.loopG ok ck22 (α := Nat) (fun i => ⟨[(10, .int .i64 (i : Int)), (9, .int .i64 (p.l.length : Int)), (5, .osl 5 (.int .u8) 0 p.l.length (some p.l.length)), (1, .clo 49 [] [.bptr 4 0])], ⟨6, 0, [(5, .arr (.int .u8) ((List.range i).map (fun j : Nat => a.getD j 0 + 1) ++ List.replicate (p.l.length - i) (0 : Int) : List Int)), (4, .box [.osl 3 (.int .u8) 0 p.l.length (some p.l.length)]), (3, .arr (.int .u8) a)]⟩⟩) (fun i => i ≤ p.l.length) (fun i => p.l.length - i) 0 ?_ ?_ ?_
          · refine DEnt.of ?_; simp only [entD, entS, entO, Loc.kill, lk, lkO, Loc.kill, nbeqB,  ↓cond_true, ↓cond_false, DV.kill, DV.killL, geN, beq_self_eq_true, Nat.ble, eq_self, and_true, true_and, and_self, Nat.zero_le, Nat.reduceBEq, DV.int.injEq, true_and, and_true, eq_self]
            exact ⟨rfl, rfl⟩
          · exact Nat.zero_le _
          · intro i hi
            have e1 : IntKind.i64.wrap ((i : Int) + 1) = (i : Int) + 1 := wrap64' (by omega)
            have e2 : i < p.l.length → IntKind.u8.wrap (a.getD i 0 + 1) = a.getD i 0 + 1 := fun q => by have := ga i q; exact wrapU8 (by omega)
            simp (config := { maxSteps := 20000000 }) only [l33_0, inQ, dresL, unT, go_nil, go_skip, go_reg, go_seq, go_cond, go_block, go_exit, go_ret, go_gh, go_codeX, go_ops0, go_opsK, keepM_nil, keepM_lo, FB, Nat.reducePow, Nat.reduceDiv, Nat.reduceMod, go_opsG1, go_opsP, go_opsC, go_blkX, go_rndX, unS_and, tgtD, unl, callD, gh1, frzP, frzOne, List.map_cons, List.map_nil, wantD, dpure, ev, evs, lk, putD, killT, lkO, rmO, nbeqB,  ↓cond_true, ↓cond_false, Option.map_some, sideP, dBin, Ty.D, fnQ, dress, dres1, unl, finDV, frzV, sidesP, DV.kill, decide_true, decide_false, Nat.zero_add, beq_self_eq_true, Bool.and_self, List.nil_append, List.cons_append, Nat.ble, eq_self, List.drop_zero, and_true, true_and, Nat.reduceLeDiff, Nat.reduceBEq, CO22, CO21, CO15, CO50, CO35, CO30, CO42, CO43, CO39, CO14, CO8, CO9, CO24, CO25, CO26, CO27, CO12, CO40, CO36, CO37, CO16, CO17, CO45, CO20, CO38, CO18, CO19, CO0, brB_eq, decide_eq_true_eq, decide_eq_false_iff_not, Int.not_lt, true_and, and_true, eq_self]
            refine ⟨fun h3 => ?_, fun h3 => ?_⟩
            · refine goI_in ok ck22 (c := d49) (rs := r49) Try.func49 rfl (by kernel_rfl) (by kernel_rfl) rfl rfl ?_
              have e2 := e2 (by omega)
              simp (config := { maxSteps := 20000000 }) only [e1, e2, d49, r49, inQ, dresL, shT, unT, go_nil, go_reg, go_seq, go_ret, go_ops0, go_opsK, keepM_nil, keepM_hi, keepM_lo, FB, Nat.reducePow, Nat.reduceDiv, Nat.reduceMod, go_opsP, go_opsE, go_blkN, go_rndN, unS_and, unl, nilqD, eff1, eStore, List.map_cons, List.map_nil, wantD, dpure, ev, lk, putD, killT, lkO, stO, setO, argsD, nbeqB,  ↓cond_true, ↓cond_false, Option.map_some, sideP, dBin, dIdx, dLoad, asTy, unflat, DV.cellA, DV.cell, setAllD, subT, flat, Ty.size, Ty.isAgg, Ty.zero, Ty.D, dres1, unl, finDV, sidesP, decide_true, decide_false, Nat.reduceAdd, Nat.zero_add, beq_self_eq_true, Bool.and_self, if_true, List.nil_append, List.cons_append, Nat.ble, List.length_cons, List.length_nil, List.all_cons, List.all_nil, List.getD_cons_zero, dite_true, eq_self, List.getElem?_cons_zero, List.set_cons_zero, Nat.reduceSub, Nat.reduceLeDiff, Nat.reduceBEq, Int.toNat_natCast, eq_self]
              refine ⟨⟨by omega, by omega⟩, by omega, ⟨by omega, by omega⟩, by simp; omega, i + 1, by omega, by omega, ?_⟩
              rw [mapRep_set (fun j : Nat => a.getD j 0 + 1) p.l.length i (by omega)]
              refine DEnt.of ?_; simp only [entD, entS, entO, Loc.kill, lk, lkO, Loc.kill, nbeqB,  ↓cond_true, ↓cond_false, DV.kill, DV.killL, geN, beq_self_eq_true, Nat.ble, eq_self, and_true, true_and, and_self, Nat.zero_le, Nat.reduceBEq, DV.int.injEq, true_and, and_true, eq_self]
              rfl
            · have hin : i = p.l.length := by omega
              subst hin
              have em : (List.range p.l.length).map (fun j : Nat => a.getD j 0 + 1) = a.map (· + 1) := by
                apply List.ext_getElem (by simp [la])
                intro j q1 q2
                simp at q1
                simp [la, q1]
              rw [em, Nat.sub_self, List.replicate_zero, List.append_nil, List.take_of_length_le (by simp [la])]
              exact ⟨by simp [la], up0_perm k2 hl, a, k2, k3, fun i hi => k4 i (by omega), rfl⟩

end Go.Proofs.Ytpchlfmlolkeeaa

namespace Go.Proofs.Ytpchlfmlolkeeaa
open Go Go.RowKit Go.Am
set_option linter.unusedSimpArgs false
set_option linter.unusedVariables false
set_option maxRecDepth 20000
set_option maxHeartbeats 4000000

/-- What Meet returns. -/
def isMeet (p q m : List Int) : Prop := ∃ a : List Int, a.Perm (up0 p.length) ∧ a.Pairwise (Rm p q) ∧ (∀ i, i + 1 < p.length → ¬ Cm p q a i) ∧ m = (backS (a.map (· + 1))).l
def okW (p q : List Int) (y : Nat × Nat) : Bool := !(crosses p y && !crosses q y)
def wiB (p q : List Int) : Bool := (prs p.length p.length).all (okW p q)
theorem chk_both {p q : List Int} (hp : Perm p) (hq : Perm q) (h : q.length = p.length) : (if chk p ≠ 0 then chk p else if chk q ≠ 0 then chk q else if p.length ≠ q.length then 5 else 0) = 0 := by
  rw [if_neg (by have := hp.chk; omega), if_neg (by have := hq.chk; omega), if_neg (by omega)]
theorem isMeet_len {p q m : List Int} (h : isMeet p q m) : m.length = p.length := by
  obtain ⟨a, h1, _, _, rfl⟩ := h
  rw [backS_len, List.length_map, h1.length_eq]; simp [up0]
theorem isMeet_perm {p q m : List Int} (hp : Perm p) (h : isMeet p q m) : Perm m := by
  obtain ⟨a, h1, _, _, rfl⟩ := h
  exact backS_perm (up0_perm h1 hp.len)
theorem bel_wi {p q : List Int} (hq : Perm q) (h : q.length = p.length) : belB p q = wiB p q := by
  unfold belB wiB
  rw [Bool.eq_iff_iff, List.all_eq_true, List.all_eq_true]
  refine forall_congr' fun y => forall_congr' fun hy => ?_
  have h1 := prs_lt hy
  have h2 := prs_bd (Nat.le_refl _) hy
  have c3 : q.getD y.1 0 ≠ q.getD y.2 0 := fun e => by
    have g1 := hq.idx (i := y.1) (by omega)
    have g2 := hq.idx (i := y.2) (by omega)
    rw [e] at g1
    omega
  have : decide (q.getD y.1 0 < q.getD y.2 0) = !crosses q y := by
    unfold crosses
    generalize q.getD y.1 0 = u at *
    generalize q.getD y.2 0 = v at *
    by_cases c : u < v
    · have : ¬ v < u := by omega
      simp only [c, this, decide_true, decide_false, Bool.not_false]
    · have : v < u := by omega
      simp only [c, this, decide_true, decide_false, Bool.not_true]
  unfold belP okW
  rw [this]
  rfl
theorem bel_meet {p q m : List Int} (hp : Perm p) (h : isMeet p q m) : (∀ y ∈ prs p.length p.length, crosses m y = true → crosses p y = true ∧ crosses q y = true) := by
  obtain ⟨a, h1, h2, _, rfl⟩ := h
  intro y hy hc
  have la : a.length = p.length := by rw [h1.length_eq]; simp [up0]
  have hP := up0_perm h1 hp.len
  have b1 := prs_lt hy
  have b2 := prs_bd (Nat.le_refl _) hy
  have lm : (a.map (· + 1)).length = p.length := by simp [la]
  have e1 : (backS (a.map (· + 1))).l.getD y.1 0 = idxOf (a.map (· + 1)) ((y.1 : Int) + 1) + 1 := tab_get (by omega)
  have e2 : (backS (a.map (· + 1))).l.getD y.2 0 = idxOf (a.map (· + 1)) ((y.2 : Int) + 1) + 1 := tab_get (by omega)
  have m1 := idxOf_mem (hP.all y.1 (by omega))
  have m2 := idxOf_mem (hP.all y.2 (by omega))
  have d1 := idxOf_bd (a.map (· + 1)) ((y.1 : Int) + 1)
  have d2 := idxOf_bd (a.map (· + 1)) ((y.2 : Int) + 1)
  unfold crosses at hc
  rw [e1, e2] at hc
  have hc := of_decide_eq_true hc
  generalize idxOf (a.map (· + 1)) ((y.1 : Int) + 1) = u at *
  generalize idxOf (a.map (· + 1)) ((y.2 : Int) + 1) = v at *
  have gu : a.getD u.toNat 0 = y.1 := by
    have : (a.map (· + 1)).getD u.toNat 0 = a.getD u.toNat 0 + 1 := by simp [la, show u.toNat < p.length by omega]
    omega
  have gv : a.getD v.toNat 0 = y.2 := by
    have : (a.map (· + 1)).getD v.toNat 0 = a.getD v.toNat 0 + 1 := by simp [la, show v.toNat < p.length by omega]
    omega
  have hr := List.pairwise_iff_getElem.1 h2 v.toNat u.toNat (by omega) (by omega) (by omega)
  have eu : a[u.toNat]'(by omega) = y.1 := by rw [← gu]; simp [la, show u.toNat < p.length by omega]
  have ev : a[v.toNat]'(by omega) = y.2 := by rw [← gv]; simp [la, show v.toNat < p.length by omega]
  rw [eu, ev] at hr
  have := hr (by omega)
  simp only [Int.toNat_natCast] at this
  unfold crosses
  exact ⟨decide_eq_true this.1, decide_eq_true this.2⟩
theorem wi_meet {p q m : List Int} (hp : Perm p) (h : isMeet p q m) : wiB m p = true ∧ wiB m q = true := by
  have hl := isMeet_len h
  have key := bel_meet hp h
  unfold wiB
  rw [hl]
  constructor <;> rw [List.all_eq_true] <;> intro y hy <;> unfold okW <;> have := key y hy <;> cases hc : crosses m y <;> simp_all
theorem then_rest {p q : List Int} (hp : Perm p) (h : q.length = p.length) : (thenS p (thenS (backS p).l q).l).l = q := by
  apply List.ext_getElem
  · rw [thenS_len, h]
  · intro i h1 h2
    rw [thenS_len] at h1
    have g := hp.get h1
    have e1 : (thenS p (thenS (backS p).l q).l).l[i] = (thenS p (thenS (backS p).l q).l).l.getD i 0 := by simp [thenS_len, h1]
    rw [e1, thenS_get h1, thenS_get (by rw [backS_len]; omega), backS_get hp h1]
    have : ((i : Int) + 1 - 1).toNat = i := by omega
    rw [this]
    simp [h2]
theorem wi_count {p q : List Int} (hp : Perm p) (hq : Perm q) (h : q.length = p.length) (hw : wiB p q = true) : nInv p + nInv (thenS (backS p).l q).l = nInv q := by
  rw [nInv_rest hp, ← invL_nInv p, ← invL_nInv q]
  unfold invL
  rw [List.length_map, List.length_map, ← List.countP_eq_length_filter, ← List.countP_eq_length_filter, h]
  unfold wiB at hw
  rw [List.all_eq_true] at hw
  have key : ∀ l : List (Nat × Nat), (∀ y ∈ l, y ∈ prs p.length p.length) → l.countP (crosses p) + l.countP (dis p q) = l.countP (crosses q) := by
    intro l
    induction l with
    | nil => intro _; rfl
    | cons y l ih =>
      intro hl
      have hy := hl y (List.mem_cons_self ..)
      have ih := ih fun z hz => hl z (List.mem_cons_of_mem _ hz)
      have h1 := prs_lt hy
      have h2 := prs_bd (Nat.le_refl _) hy
      have w := hw y hy
      have c1 : p.getD y.1 0 ≠ p.getD y.2 0 := fun e => by
        have g1 := hp.idx h2.1
        have g2 := hp.idx h2.2
        rw [e] at g1
        omega
      have c2 : q.getD y.1 0 ≠ q.getD y.2 0 := fun e => by
        have g1 := hq.idx (i := y.1) (by omega)
        have g2 := hq.idx (i := y.2) (by omega)
        rw [e] at g1
        omega
      simp only [List.countP_cons]
      have e : (if crosses p y = true then 1 else 0) + (if dis p q y = true then 1 else 0) = (if crosses q y = true then 1 else 0 : Nat) := by
        unfold okW crosses at w
        unfold dis crosses
        generalize p.getD y.1 0 = u at *
        generalize p.getD y.2 0 = v at *
        generalize q.getD y.1 0 = u' at *
        generalize q.getD y.2 0 = v' at *
        by_cases a1 : v < u
        · have a2 : ¬ u < v := by omega
          by_cases a3 : v' < u'
          · have a4 : ¬ u' < v' := by omega
            simp [a1, a2, a3, a4]
          · simp [a1, a3] at w
        · have a2 : u < v := by omega
          by_cases a3 : v' < u'
          · simp [a1, a2, a3]
          · simp [a1, a2, a3]
      omega
  exact key _ fun y hy => hy


theorem c10 (p q : Sl Int) (hp : Perm p.l) (hq : Perm q.l) (hpq : q.l.length = p.l.length) : PCalls Try.prog 10 [.sl (.int .u8) p, .sl (.int .u8) q] (fun d => ∃ m : List Int, isMeet p.l q.l m ∧ d = .tup [.sl (.int .u8) ⟨m, some p.l.length⟩, .int .i64 0]) := by
  refine PCalls.go ok ck22 (c := d10) (rs := r10) Try.func10 rfl (by kernel_rfl) (by kernel_rfl) rfl rfl rfl ?_
  have hl := hp.len
  simp (config := { maxSteps := 20000000 }) only [d10, r10, go_nil, go_skip, go_reg, go_seq, go_cond, go_ret, go_gh, go_codeR, go_ops0, go_opsK, keepM_nil, keepM_lo, FB, Nat.reducePow, Nat.reduceDiv, Nat.reduceMod, go_opsP, go_opsC, endP, brB_not, brB_dec, unS_and, tgtD, unl, callD, gh1, wantD, dpure, ev, evs, lk, putD, killT, argsD, nbeqB,  ↓cond_true, ↓cond_false, Option.map_some, sideP, dBin, Ty.D, fnQ, dress, dres1, unl, finDV, frzV, frzVs, sidesP, DV.kill, DV.killL, decide_true, decide_false, Nat.zero_add, beq_self_eq_true, List.append_nil, eq_self, true_and, Nat.reduceLeDiff, Nat.reduceBEq, CO22, CO21, CO15, CO50, CO35, CO30, CO42, CO43, CO39, CO14, CO8, CO9, CO24, CO25, CO26, CO27, CO12, CO40, CO36, CO37, CO16, CO17, CO45, CO20, CO38, CO18, CO19, CO0]
  have h3 := chk_both hp hq hpq
  refine ⟨⟨by omega, by omega⟩, fun _ => ?_, fun r => absurd h3 r⟩
  refine goI_pure (c31 p q hp hq hpq) ?_
  rintro _ ⟨a, a1, a2, a3, rfl⟩
  simp only [go_nil, go_ret, go_gh, go_ops0, go_opsK, keepM_nil, keepM_lo, FB, Nat.reducePow, Nat.reduceDiv, Nat.reduceMod, go_opsP, unl, gh1, wantD, dpure, ev, lk, putD, nbeqB,  ↓cond_true, ↓cond_false, Option.map_some, sideP, fnQ, dress, dres1, unl, finDV, frzV, frzVs, sidesP, DV.kill, DV.killL, decide_false, beq_self_eq_true, List.append_nil, eq_self, and_true, true_and, Nat.reduceLeDiff, Nat.reduceBEq, DV.tup.injEq, List.cons.injEq, true_and, and_true, eq_self]
  refine ⟨_, ⟨a, a1, a2, a3, rfl⟩, ?_⟩
  unfold backS tab
  simp only [List.length_map, a1.length_eq, up0, List.length_range]

theorem c13 (p q : Sl Int) (hp : p.l.length < 1000 ∧ q.l.length = p.l.length) : PCalls Try.prog 13 [.sl (.int .u8) p, .sl (.int .u8) q] (fun d => d = .bool (wiB p.l q.l)) := by
  refine PCalls.go ok ck22 (c := d13) (rs := r13) Try.func13 rfl (by kernel_rfl) (by kernel_rfl) rfl rfl rfl ?_
  simp (config := { maxSteps := 20000000 }) only [d13, r13, go_reg, go_seq, go_block, go_loop, go_ops0, go_opsP, endP, wantD, dpure, ev, putD, argsD,  ↓cond_false, Option.map_some, sideP, Nat.zero_add]
  obtain ⟨h1, h2⟩ := hp
  refine DWc.loopG ok ck22 (α := Nat) (fun m => ⟨[(5, .int .i64 ((p.l.length - m : Nat) : Int)), (0, .sl (.int .u8) p), (1, .sl (.int .u8) q)], ⟨3, 0, []⟩⟩) (fun m => m ≤ p.l.length ∧ wiB p.l q.l = (prs p.l.length m).all (okW p.l q.l)) (fun m => m) p.l.length ?_ ?_ ?_
  · refine DEnt.of ?_; simp only [entD, entS, entO, lk, nbeqB,  ↓cond_true, ↓cond_false, DV.kill, beq_self_eq_true, eq_self, and_true, true_and, and_self, Nat.zero_le, Nat.reduceBEq, DV.int.injEq, true_and, and_true, eq_self]
    omega
  · exact ⟨Nat.le_refl _, rfl⟩
  · intro m hm
    have e1 : IntKind.i64.wrap (((p.l.length - m : Nat) : Int) + 1) = ((p.l.length - m : Nat) : Int) + 1 := wrap64' (by omega)
    simp (config := { maxSteps := 20000000 }) only [e1, l13_0, go_nil, go_skip, go_reg, go_seq, go_cond, go_block, go_loop, go_exit, go_ret, go_codeX, go_ops0, go_opsK, keepM_nil, keepM_lo, FB, Nat.reducePow, Nat.reduceDiv, Nat.reduceMod, go_opsP, go_blkX, go_rndX, unS_and, unl, wantD, dpure, ev, lk, putD, nbeqB,  ↓cond_true, ↓cond_false, Option.map_some, sideP, lenD, dBin, Ty.D, fnQ, dress, dres1, unl, finDV, frzV, sidesP, DV.kill, decide_true, decide_false, beq_self_eq_true, eq_self, Nat.reduceLeDiff, Nat.reduceBEq, brB_eq, decide_eq_true_eq, decide_eq_false_iff_not, Int.not_lt, DV.bool.injEq, eq_self]
    refine ⟨fun g1 => ?_, fun g1 => ?_⟩
    · obtain ⟨m, rfl⟩ : ∃ j, m = j + 1 := ⟨m - 1, by omega⟩
      refine DWc.loopG ok ck22 (α := Nat) (fun b => ⟨[(6, .int .i64 (b : Int)), (5, .int .i64 ((p.l.length - (m + 1) : Nat) : Int)), (0, .sl (.int .u8) p), (1, .sl (.int .u8) q)], ⟨3, 0, []⟩⟩)
        (fun b => p.l.length - (m + 1) + 1 ≤ b ∧ b ≤ p.l.length ∧ wiB p.l q.l = (rowP p.l.length (p.l.length - (m + 1)) b ++ prs p.l.length m).all (okW p.l q.l)) (fun b => p.l.length - b) (p.l.length - (m + 1) + 1) ?_ ?_ ?_
      · refine DEnt.of ?_; simp only [entD, entS, entO, lk, nbeqB,  ↓cond_true, ↓cond_false, DV.kill, beq_self_eq_true, eq_self, and_true, true_and, and_self, Nat.zero_le, Nat.reduceBEq, DV.int.injEq, true_and, and_true, eq_self]
        omega
      · exact ⟨Nat.le_refl _, by omega, hm.2⟩
      · rintro b ⟨b1, b2, b3⟩
        have e2 : IntKind.i64.wrap ((b : Int) + 1) = (b : Int) + 1 := wrap64' (by omega)
        simp (config := { maxSteps := 20000000 }) only [e1, e2, l13_1, go_nil, go_skip, go_reg, go_seq, go_cond, go_block, go_exit, go_ret, go_codeX, go_codeR, go_ops0, go_opsK, go_opsM, keepM_nil, keepM_lo, dropM_nil, dropM_lo, FB, Nat.reducePow, Nat.reduceDiv, Nat.reduceMod, go_opsP, go_opsC, go_blkN, go_blkX, go_blkR, go_rndN, go_rndX, go_rndR, ↓brB_true, ↓brB_false, unS_stp, unS_and, brM_mm, brM_sm, bif_ff, unl, callD, wantD, dpure, ev, evs, lk, putD, killT, nbeqB,  ↓cond_true, ↓cond_false, Option.map_some, sideP, lenD, dBin, dPick, Ty.D, fnQ, dress, dres1, unl, finDV, frzV, sidesP, DV.kill, decide_true, decide_false, beq_self_eq_true, bFT, Bool.and_true, eq_self, Nat.reduceLeDiff, Bool.and_eq_true, Nat.reduceBEq, CO22, CO21, CO20, CO38, CO18, CO19, brB_eq, Bool.and_eq_false_imp, decide_eq_true_eq, decide_eq_false_iff_not, Bool.not_eq_true', Bool.not_eq_false', Bool.and_eq_true, Int.not_lt, DV.bool.injEq, eq_self]
        refine ⟨fun g2 => ?_, fun g2 => ?_⟩
        · have ec1 : crB p.l ((p.l.length - (m + 1) : Nat) : Int) (b : Int) = crosses p.l (p.l.length - (m + 1), b) := crB_lt' (by omega)
          have ec2 : crB q.l ((p.l.length - (m + 1) : Nat) : Int) (b : Int) = crosses q.l (p.l.length - (m + 1), b) := crB_lt' (by omega)
          rw [ec1, ec2]
          rw [rowP_cons (by omega), List.cons_append, List.all_cons] at b3
          have eo : okW p.l q.l (p.l.length - (m + 1), b) = !(crosses p.l (p.l.length - (m + 1), b) && !crosses q.l (p.l.length - (m + 1), b)) := rfl
          refine ⟨by omega, fun _ => by omega, fun g3 => ?_, fun g3 => ⟨b + 1, by omega, ⟨by omega, by omega, ?_⟩, ?_⟩⟩
          · rw [eo, g3.1, g3.2] at b3
            rw [b3]; rfl
          · have : okW p.l q.l (p.l.length - (m + 1), b) = true := by
              rw [eo]
              cases hc : crosses p.l (p.l.length - (m + 1), b) with
              | false => rfl
              | true => rw [g3 hc]; rfl
            rw [this, Bool.true_and] at b3
            exact b3
          · refine DEnt.of ?_; simp only [entD, entS, entO, lk, nbeqB,  ↓cond_true, ↓cond_false, DV.kill, beq_self_eq_true, eq_self, and_true, true_and, and_self, Nat.zero_le, Nat.reduceBEq, DV.int.injEq, true_and, and_true, eq_self]
            rfl
        · have : b = p.l.length := by omega
          subst this
          rw [rowP_nil (Nat.le_refl _), List.nil_append] at b3
          refine ⟨m, by omega, ⟨by omega, b3⟩, ?_⟩
          refine DEnt.of ?_; simp only [entD, entS, entO, lk, nbeqB,  ↓cond_true, ↓cond_false, DV.kill, beq_self_eq_true, eq_self, and_true, true_and, and_self, Nat.zero_le, Nat.reduceBEq, DV.int.injEq, true_and, and_true, eq_self]
          omega
    · have : m = 0 := by omega
      subst this
      exact hm.2.symm
def CO13 : CF := fun f args L => bif Nat.beq f 13 then (match args with
  | [.sl (.int .u8) p, .sl (.int .u8) q] => some (some (p.l.length < 1000 ∧ q.l.length = p.l.length), .bool (wiB p.l q.l), L, [])
  | _ => none) else CO22 f args L
theorem ck13 : CFOk Try.prog CO13 := by
  intro f args L side d L' ks hc hs
  unfold CO13 at hc
  cases hb : Nat.beq f 13 with
  | false => rw [hb] at hc; exact ck22 f args L side d L' ks hc hs
  | true =>
    have := Nat.eq_of_beq_eq_true hb
    subst this
    simp only [hb, cond_true] at hc
    split at hc
    · simp only [Option.some.injEq, Prod.mk.injEq] at hc
      obtain ⟨rfl, rfl, rfl, rfl⟩ := hc
      exact c13 _ _ (hs _ rfl) L
    · cases hc
theorem c23t (p q : Sl Int) (hp : Perm p.l ∧ Perm q.l ∧ q.l.length = p.l.length ∧ belB p.l q.l = true) : PCalls Try.prog 23 [.sl (.int .u8) p, .sl (.int .u8) q] (fun d => d = .tup [.sl (.int .u8) (thenS (backS p.l).l q.l), .int .i64 0]) := by
  refine PCalls.go ok ck13 (c := d23) (rs := r23) Try.func23 rfl (by kernel_rfl) (by kernel_rfl) rfl rfl rfl ?_
  simp (config := { maxSteps := 20000000 }) only [d23, r23, go_nil, go_skip, go_reg, go_seq, go_cond, go_block, go_ret, go_gh, go_codeR, go_ops0, go_opsK, keepM_nil, keepM_lo, FB, Nat.reducePow, Nat.reduceDiv, Nat.reduceMod, go_opsP, go_opsC, go_blkN, go_blkR, endP, ↓brB_false, brB_not, ↓brM_false, unS_and, unl, callD, gh1, wantD, dpure, ev, evs, lk, putD, killT, argsD, nbeqB,  ↓cond_true, ↓cond_false, Option.map_some, sideP, dBin, Ty.D, fnQ, dress, dres1, unl, finDV, frzV, frzVs, sidesP, DV.kill, DV.killL, decide_true, decide_false, Nat.zero_add, beq_self_eq_true, List.append_nil, eq_self, List.getElem?_cons_zero, List.getElem?_cons_succ, and_true, true_and, Nat.reduceLeDiff, Bool.not_true, Bool.not_false, and_self, Nat.reduceBEq, CO13, CO21, CO15, CO39, CO14, CO8, CO9, CO24, CO25, CO26, CO27, CO40, CO36, CO37, CO16, CO17, CO45, CO20, CO38, CO18, CO19, backS_len, CO22]
  obtain ⟨h1, h2, h3, h4⟩ := hp
  rw [h4, brB_true]
  exact ⟨⟨h1, h2, h3⟩, h1, backS_perm h1, h3⟩
theorem c23f (p q : Sl Int) (hp : Perm p.l ∧ Perm q.l ∧ q.l.length = p.l.length ∧ belB p.l q.l = false) : PCalls Try.prog 23 [.sl (.int .u8) p, .sl (.int .u8) q] (fun d => d = .tup [.sl (.int .u8) ⟨[], some 0⟩, .int .i64 7]) := by
  refine PCalls.go ok ck13 (c := d23) (rs := r23) Try.func23 rfl (by kernel_rfl) (by kernel_rfl) rfl rfl rfl ?_
  simp (config := { maxSteps := 20000000 }) only [d23, r23, go_nil, go_skip, go_reg, go_seq, go_cond, go_block, go_ret, go_gh, go_codeR, go_ops0, go_opsK, keepM_nil, keepM_lo, FB, Nat.reducePow, Nat.reduceDiv, Nat.reduceMod, go_opsP, go_opsC, go_blkN, go_blkR, endP, ↓brB_false, brB_not, ↓brM_false, unS_and, unl, callD, gh1, wantD, dpure, ev, evs, lk, putD, killT, argsD, nbeqB,  ↓cond_true, ↓cond_false, Option.map_some, sideP, dBin, Ty.D, fnQ, dress, dres1, unl, finDV, frzV, frzVs, sidesP, DV.kill, DV.killL, decide_true, decide_false, Nat.zero_add, beq_self_eq_true, List.append_nil, eq_self, List.getElem?_cons_zero, List.getElem?_cons_succ, true_and, Nat.reduceLeDiff, Bool.not_true, Bool.not_false, and_self, Nat.reduceBEq, CO13, CO21, CO15, CO39, CO14, CO8, CO9, CO24, CO25, CO26, CO27, CO40, CO36, CO37, CO16, CO17, CO45, CO20, CO38, CO18, CO19, backS_len, CO22]
  obtain ⟨h1, h2, h3, h4⟩ := hp
  rw [h4, brB_false]
  exact ⟨⟨h1, h2, h3⟩, trivial⟩
theorem c5f (x y : Sl Int) (hp : U8s x.l ∧ U8s y.l ∧ x.l.length ≤ 140737488351232 ∧ y.l.length ≤ 140737488351232) : PCalls Try.prog 5 [.sl (.int .u8) x, .sl (.int .u8) y, .bool false] (fun d => d = .bool true) := by
  refine PCalls.go ok ck13 (c := d5) (rs := r5) Try.func5 rfl (by kernel_rfl) (by kernel_rfl) rfl rfl rfl ?_
  simp (config := { maxSteps := 20000000 }) only [d5, r5, go_skip, go_reg, go_seq, go_cond, go_ops0, go_opsK, keepM_nil, keepM_lo, FB, Nat.reducePow, Nat.reduceDiv, Nat.reduceMod, go_opsP, go_opsC, endP, ↓brB_false, ↓brM_false, unS_and, tgtD, callD, wantD, dpure, ev, evs, lk, putD, killT, argsD, nbeqB,  ↓cond_true, ↓cond_false, Option.map_some, sideP, lenD, Ty.D, decide_false, Nat.reduceAdd, Nat.zero_add, beq_self_eq_true, eq_self, List.getElem?_cons_zero, List.getElem?_cons_succ, and_true, Nat.reduceLeDiff, Nat.reduceBEq, CO13, CO21, CO15, CO50, CO35, CO30, CO42, CO43, CO39, CO14, CO8, CO9, CO24, CO25, CO26, CO27, CO12, CO40, CO36, CO37, CO16, CO17, CO45, CO20, CO38, CO18, CO19, ofS_len, asS_len, CO22, CO0]
  obtain ⟨u1, u2, u3, u4⟩ := hp
  have hn := ofN_bd y.l
  have hQ := ofS_perm y.l
  have hP : Perm (asS x.l (ofN y.l)).l := ofS_perm _
  have hPQ : (ofS y.l).l.length = (asS x.l (ofN y.l)).l.length := by rw [ofS_len, asS_len]
  refine ⟨u2, ⟨u1, by omega, by omega, u3⟩, ⟨hP, hQ⟩, ?_⟩
  generalize ofS y.l = Q at *
  generalize asS x.l (ofN y.l) = P at *
  clear u1 u2 u3 u4 hn
  have hb := bel_wi hQ hPQ
  cases hw : wiB P.l Q.l with
  | false =>
    rw [hw] at hb
    refine goI_pure (c23f P Q ⟨hP, hQ, hPQ, hb⟩) ?_
    rintro _ rfl
    simp (config := { maxSteps := 20000000 }) only [hb, hw, go_nil, go_skip, go_reg, go_seq, go_cond, go_ret, go_codeR, go_ops0, go_opsK, go_opsM, keepM_nil, keepM_lo, dropM_nil, dropM_lo, FB, Nat.reducePow, Nat.reduceDiv, Nat.reduceMod, go_opsP, go_opsC, ↓brB_true, ↓brB_false, ↓brM_true, ↓brM_false, unS_stp, unS_and, brM_mm, bif_ff, unl, callD, wantD, dpure, ev, evs, lk, putD, killT, nbeqB,  ↓cond_true, ↓cond_false, Option.map_some, sideP, lenD, dBin, dPick, boolD, Ty.D, fnQ, dress, dres1, unl, finDV, frzV, sidesP, DV.kill, decide_true, decide_false, beq_self_eq_true, bFT, Bool.and_true, List.length_nil, eq_self, List.getElem?_cons_zero, List.getElem?_cons_succ, Nat.reduceLeDiff, Bool.not_true, Bool.not_false, Int.reduceEq, Nat.reduceBEq, CO13, CO21, CO15, CO36, CO37, CO16, CO17, CO45, CO20, CO38, CO18, CO19, CO22]
    exact ⟨⟨by have := hP.len; omega, hPQ⟩, rfl⟩
  | true =>
    rw [hw] at hb
    refine goI_pure (c23t P Q ⟨hP, hQ, hPQ, hb⟩) ?_
    rintro _ rfl
    simp (config := { maxSteps := 20000000 }) only [hb, hw, go_nil, go_skip, go_reg, go_seq, go_cond, go_ret, go_ops0, go_opsK, go_opsM, keepM_nil, keepM_lo, dropM_nil, dropM_lo, FB, Nat.reducePow, Nat.reduceDiv, Nat.reduceMod, go_opsP, go_opsC, ↓brB_false, ↓brM_true, ↓brM_false, unS_stp, unS_and, brM_mm, bif_ff, unl, callD, wantD, dpure, ev, evs, lk, putD, killT, nbeqB,  ↓cond_true, ↓cond_false, Option.map_some, sideP, lenD, capD, dBin, dPick, boolD, Ty.D, fnQ, dress, dres1, unl, finDV, frzV, sidesP, DV.kill, decide_true, decide_false, beq_self_eq_true, bFT, Bool.and_true, Option.getD_some, eq_self, List.getElem?_cons_zero, List.getElem?_cons_succ, and_true, Nat.reduceLeDiff, Bool.not_true, Nat.reduceBEq, CO13, CO21, CO15, CO39, CO14, CO8, CO9, CO24, CO25, CO26, CO36, CO37, CO16, CO17, CO45, CO20, CO38, CO18, CO19, thenS_cap, thenS_len, backS_len, CO22]
    have hR := thenS_perm (backS_perm hP) hQ (by rw [backS_len]; exact hPQ)
    have rl : (thenS (backS P.l).l Q.l).l.length = P.l.length := by rw [thenS_len, backS_len]
    refine ⟨⟨by have := hP.len; omega, hPQ⟩, ⟨hP, hR⟩, hP, hR, hQ, ?_⟩
    have tr := then_rest hP hPQ
    have cnt := wi_count hP hQ hPQ hw
    rw [← invL_nInv P.l, ← invL_nInv (thenS (backS P.l).l Q.l).l, ← invL_nInv Q.l] at cnt
    have lq := invL_len Q.l hQ.len.2
    have ew : IntKind.i64.wrap (((invL P.l).length : Int) + ((invL (thenS (backS P.l).l Q.l).l).length : Int)) = ((invL Q.l).length : Int) := by rw [wrap64' (by omega)]; omega
    rw [ew, tr]
    refine ⟨⟨by simp, hQ.u8, hQ.u8⟩, ?_⟩
    simp [sameB, hPQ]
theorem c5t (x y : Sl Int) (hp : U8s x.l ∧ U8s y.l ∧ x.l.length ≤ 140737488351232 ∧ y.l.length ≤ 140737488351232) : PCalls Try.prog 5 [.sl (.int .u8) x, .sl (.int .u8) y, .bool true] (fun d => d = .bool true) := by
  refine PCalls.go ok ck13 (c := d5) (rs := r5) Try.func5 rfl (by kernel_rfl) (by kernel_rfl) rfl rfl rfl ?_
  simp (config := { maxSteps := 20000000 }) only [d5, r5, go_reg, go_seq, go_cond, go_ops0, go_opsK, keepM_nil, keepM_lo, FB, Nat.reducePow, Nat.reduceDiv, Nat.reduceMod, go_opsP, go_opsC, endP, ↓brB_true, ↓brM_true, unS_and, tgtD, callD, wantD, dpure, ev, evs, lk, putD, killT, argsD, nbeqB,  ↓cond_true, ↓cond_false, Option.map_some, sideP, lenD, Ty.D, decide_false, Nat.reduceAdd, Nat.zero_add, beq_self_eq_true, eq_self, Nat.reduceLeDiff, Nat.reduceBEq, CO13, CO21, CO15, CO50, CO35, CO30, CO42, CO43, CO39, CO14, CO8, CO9, CO24, CO25, CO26, CO27, CO12, CO40, CO36, CO37, CO16, CO17, CO45, CO20, CO38, CO18, CO19, ofS_len, CO22, CO0]
  obtain ⟨u1, u2, u3, u4⟩ := hp
  have hn := ofN_bd y.l
  have hQ := ofS_perm y.l
  have hP0 : Perm (asS x.l (ofN y.l)).l := ofS_perm _
  have hPQ0 : (ofS y.l).l.length = (asS x.l (ofN y.l)).l.length := by rw [ofS_len, asS_len]
  refine ⟨u2, ⟨u1, by omega, by omega, u3⟩, ?_⟩
  generalize ofS y.l = Q at *
  generalize asS x.l (ofN y.l) = P0 at *
  clear u1 u2 u3 u4 hn
  refine goI_pure (c10 P0 Q hP0 hQ hPQ0) ?_
  rintro _ ⟨m, hm, rfl⟩
  have hml := isMeet_len hm
  simp (config := { maxSteps := 20000000 }) only [hml, hPQ0, go_skip, go_reg, go_seq, go_cond, go_ops0, go_opsK, go_opsM, keepM_nil, keepM_lo, dropM_nil, dropM_lo, FB, Nat.reducePow, Nat.reduceDiv, Nat.reduceMod, go_opsP, go_opsC, ↓brB_false, ↓brM_false, unS_stp, unS_and, tgtD, unl, callD, wantD, dpure, ev, evs, lk, putD, killT, nbeqB,  ↓cond_true, ↓cond_false, Option.map_some, sideP, lenD, dBin, dPick, Ty.D, unl, decide_true, decide_false, beq_self_eq_true, eq_self, List.getElem?_cons_zero, List.getElem?_cons_succ, and_true, Nat.reduceLeDiff, Bool.not_true, Nat.reduceBEq, CO13, CO21, CO15, CO50, CO35, CO30, CO42, CO43, CO39, CO14, CO8, CO9, CO24, CO25, CO26, CO27, CO12, CO40, CO36, CO37, CO16, CO17, CO45, CO20, CO38, CO18, CO19, CO22, CO0]
  have hP := isMeet_perm hP0 hm
  refine ⟨⟨hP, hQ⟩, ?_⟩
  have hPQ : Q.l.length = m.length := by omega
  have hb := bel_wi hQ hPQ
  have hw := (wi_meet hP0 hm).2
  rw [hw] at hb
  refine goI_pure (c23t ⟨m, some P0.l.length⟩ Q ⟨hP, hQ, hPQ, hb⟩) ?_
  rintro _ rfl
  simp (config := { maxSteps := 20000000 }) only [hb, hw, go_nil, go_skip, go_reg, go_seq, go_cond, go_ret, go_ops0, go_opsK, go_opsM, keepM_nil, keepM_lo, dropM_nil, dropM_lo, FB, Nat.reducePow, Nat.reduceDiv, Nat.reduceMod, go_opsP, go_opsC, ↓brB_false, ↓brM_true, ↓brM_false, unS_stp, unS_and, brM_mm, bif_ff, unl, callD, wantD, dpure, ev, evs, lk, putD, killT, nbeqB,  ↓cond_true, ↓cond_false, Option.map_some, sideP, lenD, capD, dBin, dPick, boolD, Ty.D, fnQ, dress, dres1, unl, finDV, frzV, sidesP, DV.kill, decide_true, decide_false, beq_self_eq_true, bFT, Bool.and_true, Option.getD_some, eq_self, List.getElem?_cons_zero, List.getElem?_cons_succ, and_true, Nat.reduceLeDiff, Bool.not_true, Nat.reduceBEq, CO13, CO21, CO15, CO39, CO14, CO8, CO9, CO24, CO25, CO26, CO36, CO37, CO16, CO17, CO45, CO20, CO38, CO18, CO19, thenS_cap, thenS_len, backS_len, CO22]
  have hR := thenS_perm (backS_perm hP) hQ (by rw [backS_len]; exact hPQ)
  have rl : (thenS (backS m).l Q.l).l.length = m.length := by rw [thenS_len, backS_len]
  refine ⟨⟨by have := hP.len; omega, hPQ⟩, ⟨hP, hR⟩, hP, hR, hQ, ?_⟩
  have tr := then_rest hP hPQ
  have cnt := wi_count hP hQ hPQ hw
  rw [← invL_nInv m, ← invL_nInv (thenS (backS m).l Q.l).l, ← invL_nInv Q.l] at cnt
  have lq := invL_len Q.l hQ.len.2
  have ew : IntKind.i64.wrap (((invL m).length : Int) + ((invL (thenS (backS m).l Q.l).l).length : Int)) = ((invL Q.l).length : Int) := by rw [wrap64' (by omega)]; omega
  rw [ew, tr]
  refine ⟨⟨by simp, hQ.u8, hQ.u8⟩, ?_⟩
  simp [sameB, hPQ]

theorem c5 (x y : Sl Int) (b : Bool) (hp : U8s x.l ∧ U8s y.l ∧ x.l.length ≤ 140737488351232 ∧ y.l.length ≤ 140737488351232) : PCalls Try.prog 5 [.sl (.int .u8) x, .sl (.int .u8) y, .bool b] (fun d => d = .bool true) := by
  cases b
  · exact c5f x y hp
  · exact c5t x y hp

end Go.Proofs.Ytpchlfmlolkeeaa

