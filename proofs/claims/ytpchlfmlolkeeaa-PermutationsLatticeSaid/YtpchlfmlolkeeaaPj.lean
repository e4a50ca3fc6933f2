/-
  The meet of two permutations is the greatest one below both, in terms of what is crossed.
-/
import Derived.Test.YtpchlfmlolkeeaaPi
set_option linter.unusedSimpArgs false
set_option linter.unusedVariables false
namespace Go.Lat
/-- A chain of crossings. -/
inductive TC (E : Nat → Nat → Prop) : Nat → Nat → Prop where
  | base {x y : Nat} : E x y → TC E x y
  | step {x z y : Nat} : TC E x z → E z y → TC E x y
theorem TC.trans {E : Nat → Nat → Prop} {x y z : Nat} (h : TC E x y) (k : TC E y z) : TC E x z := by
  induction k with
  | base e => exact .step h e
  | step _ e ih => exact .step ih e
theorem meet_top (n : Nat) (p q r : Nat → Int) (pos at' : Nat → Nat) (h1 : ∀ x, x < n → pos x < n ∧ at' (pos x) = x) (h2 : ∀ k, k < n → at' k < n ∧ pos (at' k) = k)
    (hM : ∀ x y, x < y → y < n → pos y < pos x → p y < p x ∧ q y < q x) (hI : ∀ x y, x < y → y < n → r y < r x → p y < p x ∧ q y < q x)
    (hT : ∀ k, k + 1 < n → at' k < at' (k + 1) → ¬ (p (at' (k + 1)) < p (at' k) ∧ q (at' (k + 1)) < q (at' k))) :
    ∀ x y, x < y → y < n → r y < r x → pos y < pos x := by
  let E : Nat → Nat → Prop := fun x y => x < y ∧ y < n ∧ (r y < r x ∨ pos y < pos x)
  have hE : ∀ x y c, E x y → x < c → c < y → E x c ∨ E c y := by
    rintro x y c ⟨e1, e2, e3⟩ c1 c2
    rcases e3 with e3 | e3
    · by_cases h : r c < r x
      · exact .inl ⟨c1, by omega, .inl h⟩
      · exact .inr ⟨c2, e2, .inl (by omega)⟩
    · by_cases h : pos c < pos x
      · exact .inl ⟨c1, by omega, .inr h⟩
      · exact .inr ⟨c2, e2, .inr (by omega)⟩
  have lt : ∀ x y, TC E x y → x < y ∧ y < n ∧ p y < p x ∧ q y < q x := by
    intro x y h
    induction h with
    | base e =>
      obtain ⟨e1, e2, e3⟩ := e
      rcases e3 with e3 | e3
      · exact ⟨e1, e2, hI _ _ e1 e2 e3⟩
      · exact ⟨e1, e2, hM _ _ e1 e2 e3⟩
    | @step z y _ e ih =>
      obtain ⟨e1, e2, e3⟩ := e
      have : p y < p z ∧ q y < q z := by
        rcases e3 with e3 | e3
        · exact hI _ _ e1 e2 e3
        · exact hM _ _ e1 e2 e3
      omega
  have cl : ∀ x y, TC E x y → ∀ c, x < c → c < y → TC E x c ∨ TC E c y := by
    intro x y h
    induction h with
    | base e =>
      intro c c1 c2
      exact (hE _ _ c e c1 c2).imp .base .base
    | @step z y h e ih =>
      intro c c1 c2
      rcases Nat.lt_trichotomy c z with g | g | g
      · exact (ih c c1 g).imp id fun k => .step k e
      · subst g; exact .inl h
      · exact (hE _ _ c e g c2).imp (fun k => .step h k) .base
  have main : ∀ d x y, TC E x y → pos x < pos y → pos y - pos x ≤ d → False := by
    intro d
    induction d with
    | zero => intro x y _ h1 h2; omega
    | succ d ih =>
      intro x y h g1 g2
      obtain ⟨l1, l2, l3, l4⟩ := lt x y h
      have hx := h1 x (by omega)
      have hy := h1 y l2
      by_cases hd : pos y = pos x + 1
      · have := hT (pos x) (by omega)
        rw [← hd, hx.2, hy.2] at this
        exact this l1 ⟨l3, l4⟩
      · have hc := h2 (pos x + 1) (by omega)
        generalize at' (pos x + 1) = c at hc
        have cx : c ≠ x := fun e => by rw [e] at hc; omega
        have cy : c ≠ y := fun e => by rw [e] at hc; omega
        rcases Nat.lt_or_ge c x with g | g
        · exact ih c y ((TC.base ⟨g, by omega, .inr (by omega)⟩ : TC E c x).trans h) (by omega) (by omega)
        · rcases Nat.lt_or_ge y c with k | k
          · exact ih x c (h.step ⟨k, hc.1, .inr (by omega)⟩) (by omega) (by omega)
          · rcases cl x y h c (by omega) (by omega) with e | e
            · exact ih x c e (by omega) (by omega)
            · exact ih c y e (by omega) (by omega)
  intro x y hxy hy hr
  have hne : pos x ≠ pos y := fun e => by
    have a := (h1 x (by omega)).2
    have b := (h1 y hy).2
    rw [e] at a
    omega
  rcases Nat.lt_or_ge (pos x) (pos y) with g | g
  · exact (main _ x y (.base ⟨hxy, hy, .inl hr⟩) g (Nat.le_refl _)).elim
  · omega
end Go.Lat

namespace Go.Proofs.Ytpchlfmlolkeeaa
open Go Go.RowKit Go.Am
set_option linter.unusedSimpArgs false
set_option linter.unusedVariables false
set_option maxRecDepth 20000
set_option maxHeartbeats 4000000

theorem prs_mem {n a b : Nat} (hab : a < b) (hb : b < n) : ∀ m, m ≤ n → n - m ≤ a → (a, b) ∈ prs n m
  | 0, _, h => by omega
  | m + 1, hm, h => by
    simp only [prs, List.mem_append]
    by_cases ha : a = n - (m + 1)
    · left
      subst ha
      unfold rowP
      exact List.mem_map.2 ⟨b - (n - (m + 1) + 1), List.mem_range.2 (by omega), by simp; omega⟩
    · exact .inr (prs_mem hab hb m (by omega) (by omega))
theorem wi_spec {u v : List Int} : wiB u v = true ↔ ∀ a b, a < b → b < u.length → u.getD b 0 < u.getD a 0 → v.getD b 0 < v.getD a 0 := by
  unfold wiB
  rw [List.all_eq_true]
  constructor
  · intro h a b h1 h2 h3
    have := h (a, b) (prs_mem h1 h2 _ (Nat.le_refl _) (by omega))
    unfold okW crosses at this
    generalize u.getD b 0 = x at *
    generalize u.getD a 0 = y at *
    generalize v.getD b 0 = z at *
    generalize v.getD a 0 = w at *
    by_cases c : z < w
    · exact c
    · simp [h3, c] at this
  · intro h y hy
    have h1 := prs_lt hy
    have h2 := prs_bd (Nat.le_refl _) hy
    have := h y.1 y.2 h1 h2.2
    unfold okW crosses
    generalize u.getD y.2 0 = a at *
    generalize u.getD y.1 0 = b at *
    generalize v.getD y.2 0 = c at *
    generalize v.getD y.1 0 = d at *
    by_cases e : a < b
    · simp [e, this e]
    · simp [e]
theorem wi_trans {u v w : List Int} (h : v.length = u.length) (h1 : wiB u v = true) (h2 : wiB v w = true) : wiB u w = true := by
  rw [wi_spec] at *
  exact fun a b q1 q2 q3 => h2 a b q1 (by omega) (h1 a b q1 q2 q3)
theorem Perm.ne {p : List Int} (hp : Perm p) {a b : Nat} (hab : a ≠ b) (ha : a < p.length) (hb : b < p.length) : p.getD a 0 ≠ p.getD b 0 := fun e => by
  have g1 := hp.idx ha
  have g2 := hp.idx hb
  rw [e] at g1
  omega
theorem wi_anti {u v : List Int} (hu : Perm u) (hv : Perm v) (h : v.length = u.length) (h1 : wiB u v = true) (h2 : wiB v u = true) : u = v := by
  have c1 := wi_count hu hv h h1
  have c2 := wi_count hv hu h.symm h2
  have hR := thenS_perm (backS_perm hu) hv (by rw [backS_len]; exact h)
  have tr := then_rest hu h
  have rl : (thenS (backS u).l v).l.length = u.length := by rw [thenS_len, backS_len]
  generalize (thenS (backS u).l v).l = R at *
  have z : (invL R).length = 0 := by rw [invL_nInv]; omega
  have hs : ∀ i, i + 1 < R.length → R.getD i 0 < R.getD (i + 1) 0 := by
    intro i hi
    have hm := prs_mem (n := R.length) (a := i) (b := i + 1) (by omega) hi _ (Nat.le_refl _) (by omega)
    have hc : ¬ crosses R (i, i + 1) = true := fun q => by
      have : prV (i, i + 1) ∈ invL R := List.mem_map.2 ⟨_, List.mem_filter.2 ⟨hm, q⟩, rfl⟩
      rw [List.eq_nil_of_length_eq_zero z] at this
      cases this
    have hne := hR.ne (a := i) (b := i + 1) (by omega) (by omega) hi
    unfold crosses at hc
    simp only [decide_eq_true_eq] at hc
    omega
  have hg : ∀ j, j < u.length → R.getD j 0 = (j : Int) + 1 := fun j hj => sorted_get rl (fun x hx => by have := hR.bd x hx; omega) hs hj
  rw [← tr]
  apply List.ext_getElem
  · rw [thenS_len]
  · intro i q1 q2
    have g := hu.get q1
    have e1 : (thenS u R).l[i] = (thenS u R).l.getD i 0 := by simp [thenS_len, q1]
    rw [e1, thenS_get q1, hg _ (by omega)]
    have e2 : u.getD i 0 = u[i] := by simp [q1]
    omega
theorem meet_max {p q m r : List Int} (hp : Perm p) (hr : Perm r) (hl : r.length = p.length) (h : isMeet p q m) (h1 : wiB r p = true) (h2 : wiB r q = true) : wiB r m = true := by
  have key := bel_meet hp h
  obtain ⟨a, a1, a2, a3, rfl⟩ := h
  have la : a.length = p.length := by rw [a1.length_eq]; simp [up0]
  have hP := up0_perm a1 hp.len
  have lm : (a.map (· + 1)).length = p.length := by simp [la]
  rw [wi_spec] at h1 h2 ⊢
  have mg : ∀ x, x < p.length → (backS (a.map (· + 1))).l.getD x 0 = idxOf (a.map (· + 1)) ((x : Int) + 1) + 1 := fun x hx => tab_get (by omega)
  have ag : ∀ k, k < p.length → (a.map (· + 1)).getD k 0 = a.getD k 0 + 1 := fun k hk => by simp [la, hk]
  have px : ∀ x, x < p.length → (idxOf (a.map (· + 1)) ((x : Int) + 1)).toNat < p.length ∧ (a.getD (idxOf (a.map (· + 1)) ((x : Int) + 1)).toNat 0).toNat = x ∧ ((idxOf (a.map (· + 1)) ((x : Int) + 1)).toNat : Int) = idxOf (a.map (· + 1)) ((x : Int) + 1) := by
    intro x hx
    have m1 := idxOf_mem (hP.all x (by omega))
    have d1 := idxOf_bd (a.map (· + 1)) ((x : Int) + 1)
    have := ag (idxOf (a.map (· + 1)) ((x : Int) + 1)).toNat (by omega)
    omega
  have main := Go.Lat.meet_top p.length (fun x => p.getD x 0) (fun x => q.getD x 0) (fun x => r.getD x 0) (fun x => (idxOf (a.map (· + 1)) ((x : Int) + 1)).toNat) (fun k => (a.getD k 0).toNat)
    (fun x hx => ⟨(px x hx).1, (px x hx).2.1⟩)
    (fun k hk => by
      have g := up0_get a1 hk
      refine ⟨by omega, ?_⟩
      show (idxOf (a.map (· + 1)) (((a.getD k 0).toNat : Int) + 1)).toNat = k
      have e : (((a.getD k 0).toNat : Int) + 1) = (a.map (· + 1)).getD k 0 := by rw [ag k hk]; omega
      rw [e, hP.idx (by omega)]; rfl)
    (fun x y hxy hy hc => by
      have c := key (x, y) (prs_mem hxy hy _ (Nat.le_refl _) (by omega)) (by
        unfold crosses
        simp only
        rw [mg x (by omega), mg y hy]
        have := px x (by omega)
        have := px y hy
        exact decide_eq_true (by omega))
      unfold crosses at c
      exact ⟨of_decide_eq_true c.1, of_decide_eq_true c.2⟩)
    (fun x y hxy hy hc => ⟨h1 x y hxy (by omega) hc, h2 x y hxy (by omega) hc⟩)
    (fun k hk hlt hc => by
      refine a3 k hk ?_
      have g1 := up0_get a1 (i := k) (by omega)
      have g2 := up0_get a1 (i := k + 1) hk
      unfold Cm crs
      have : a.getD k 0 < a.getD (k + 1) 0 := by omega
      simp only [this, decide_true, Bool.true_and]
      exact ⟨decide_eq_true hc.1, decide_eq_true hc.2⟩)
  intro x y hxy hy hc
  have := main x y hxy (by omega) hc
  rw [mg x (by omega), mg y (by omega)]
  have := px x (by omega)
  have := px y (by omega)
  omega
def turnS (p : List Int) : Sl Int := tab p.length fun i => (p.length : Int) + 1 - p.getD i 0
theorem turnS_len (p : List Int) : (turnS p).l.length = p.length := by simp [turnS]
theorem turnS_get {p : List Int} {i : Nat} (h : i < p.length) : (turnS p).l.getD i 0 = (p.length : Int) + 1 - p.getD i 0 := tab_get h
theorem turn_perm {p : List Int} (hp : Perm p) : Perm (turnS p).l := by
  have tl := turnS_len p
  refine ⟨by rw [tl]; exact hp.len, fun x hx => ?_, fun i hi => ?_, ?_⟩
  · rw [tl]
    simp only [turnS, tab, List.mem_map, List.mem_range] at hx
    obtain ⟨j, hj, rfl⟩ := hx
    have := hp.get hj
    omega
  · rw [tl] at hi
    have m1 := idxOf_mem (hp.all (p.length - 1 - i) (by omega))
    have d1 := idxOf_bd p (((p.length - 1 - i : Nat) : Int) + 1)
    simp only [turnS, tab, List.mem_map, List.mem_range]
    exact ⟨(idxOf p (((p.length - 1 - i : Nat) : Int) + 1)).toNat, by omega, by rw [m1.2]; omega⟩
  · simp only [turnS, tab]
    rw [List.nodup_iff_pairwise_ne, List.pairwise_map]
    refine List.Pairwise.imp_of_mem (fun {a b} ha hb hab e => ?_) (List.pairwise_lt_range (n := p.length))
    have := hp.ne (a := a) (b := b) (by omega) (List.mem_range.1 ha) (List.mem_range.1 hb)
    omega
theorem turn_turn (p : List Int) : (turnS (turnS p).l).l = p := by
  apply List.ext_getElem
  · rw [turnS_len, turnS_len]
  · intro i h1 h2
    have e1 : (turnS (turnS p).l).l[i] = (turnS (turnS p).l).l.getD i 0 := by simp [h1]
    rw [e1, turnS_get (by rw [turnS_len]; exact h2), turnS_get h2, turnS_len]
    have : p.getD i 0 = p[i] := by simp [h2]
    omega
theorem wi_turn {u v : List Int} (hu : Perm u) (hv : Perm v) (h : v.length = u.length) (hw : wiB u v = true) : wiB (turnS v).l (turnS u).l = true := by
  rw [wi_spec] at hw ⊢
  intro a b h1 h2 h3
  rw [turnS_len] at h2
  rw [turnS_get h2, turnS_get (by omega)] at h3
  rw [turnS_get (by omega), turnS_get (by omega)]
  have n1 := hu.ne (a := a) (b := b) (by omega) (by omega) (by omega)
  by_cases c : u.getD b 0 < u.getD a 0
  · have := hw a b h1 (by omega) c; omega
  · omega
/-- What Join returns. -/
def isJoin (p q j : List Int) : Prop := ∃ m, isMeet (turnS p).l (turnS q).l m ∧ j = (turnS m).l
theorem isJoin_len {p q j : List Int} (h : isJoin p q j) : j.length = p.length := by
  obtain ⟨m, hm, rfl⟩ := h
  rw [turnS_len, isMeet_len hm, turnS_len]
theorem isJoin_perm {p q j : List Int} (hp : Perm p) (h : isJoin p q j) : Perm j := by
  obtain ⟨m, hm, rfl⟩ := h
  exact turn_perm (isMeet_perm (turn_perm hp) hm)
theorem wi_join {p q j : List Int} (hp : Perm p) (hq : Perm q) (hpq : q.length = p.length) (h : isJoin p q j) : wiB p j = true ∧ wiB q j = true := by
  obtain ⟨m, hm, rfl⟩ := h
  have hP := turn_perm hp
  have hQ := turn_perm hq
  have hM := isMeet_perm hP hm
  have ml := isMeet_len hm
  rw [turnS_len] at ml
  obtain ⟨w1, w2⟩ := wi_meet hP hm
  have t1 := wi_turn hM hP (by rw [turnS_len, ml]) w1
  have t2 := wi_turn hM hQ (by rw [turnS_len, ml, hpq]) w2
  rw [turn_turn] at t1 t2
  exact ⟨t1, t2⟩
theorem join_min {p q j r : List Int} (hp : Perm p) (hq : Perm q) (hr : Perm r) (hpq : q.length = p.length) (hl : r.length = p.length) (h : isJoin p q j) (h1 : wiB p r = true) (h2 : wiB q r = true) : wiB j r = true := by
  obtain ⟨m, hm, rfl⟩ := h
  have hM := isMeet_perm (turn_perm hp) hm
  have ml := isMeet_len hm
  rw [turnS_len] at ml
  have k := meet_max (turn_perm hp) (turn_perm hr) (by rw [turnS_len, turnS_len, hl]) hm (wi_turn hp hr hl h1) (wi_turn hq hr (by omega) h2)
  have := wi_turn (turn_perm hr) hM (by rw [turnS_len, ml, hl]) k
  rw [turn_turn] at this
  exact this


theorem c34 (i : Nat) (p : Sl Int) (hi : i < p.l.length) (hp : Perm p.l) : PCalls Try.prog 34 ([] ++ [.int .i64 i] ++ [.fptr (.sl (.int .u8)) p]) (fun d => d = .int .u8 ((p.l.length : Int) + 1 - p.l.getD i 0)) := by
  have hg := hp.get hi
  have hl := hp.len
  refine PCalls.go ok ck13 (c := d34) (rs := r34) Try.func34 rfl (by kernel_rfl) (by kernel_rfl) rfl rfl rfl ?_
  have e1 : IntKind.i64.wrap ((p.l.length : Int) + 1) = (p.l.length : Int) + 1 := wrap64' (by omega)
  have e2 : IntKind.u8.wrap ((p.l.length : Int) + 1) = (p.l.length : Int) + 1 := wrapU8 (by omega)
  have e3 : IntKind.u8.wrap ((p.l.length : Int) + 1 - p.l.getD i 0) = (p.l.length : Int) + 1 - p.l.getD i 0 := wrapU8 (by omega)
  simp (config := { maxSteps := 20000000 }) only [e1, e2, d34, r34, go_nil, go_reg, go_seq, go_ret, go_ops0, go_opsK, keepM_nil, keepM_lo, FB, Nat.reducePow, Nat.reduceDiv, Nat.reduceMod, go_opsP, endP, unS_and, unl, wantD, dpure, ev, lk, putD, argsD, nbeqB,  ↓cond_true, ↓cond_false, Option.map_some, sideP, lenD, dBin, dIdx, dLoad, subT, flat, Ty.size, Ty.isAgg, Ty.zero, Ty.D, fnQ, dress, dres1, unl, finDV, frzV, sidesP, DV.kill, decide_true, decide_false, Nat.zero_add, beq_self_eq_true, Bool.and_self, List.nil_append, List.cons_append, List.getD_cons_zero, eq_self, Nat.reduceLeDiff, Nat.reduceBEq]
  exact ⟨⟨by omega, by omega⟩, by rw [Int.toNat_natCast, e3]⟩
theorem c32 (p : Sl Int) (hp : Perm p.l) : PCalls Try.prog 32 [.sl (.int .u8) p] (fun d => d = .sl (.int .u8) (turnS p.l)) := by
  have hl := hp.len
  refine PCalls.go ok ck13 (c := d32) (rs := r32) Try.func32 rfl (by kernel_rfl) (by kernel_rfl) rfl rfl rfl ?_
  simp (config := { maxSteps := 20000000 }) only [d32, r32, go_reg, go_seq, go_ops0, go_opsG7, go_opsP, go_opsE, go_opsC, endP, tgtD, callD, nilqD, eff1, gh1, wantD, dpure, ev, evs, lk, putD, killT, lkO, rmO, newO, argsD, nbeqB,  ↓cond_true, ↓cond_false, Option.map_some, sideP, lenD, dLoad, asTy, unflat, DV.cellA, DV.cell, subT, flat, Ty.size, Ty.isAgg, Ty.D, Nat.reduceAdd, beq_self_eq_true, Bool.and_self, Nat.ble, List.getD_cons_zero, dite_true, eq_self, true_and, Nat.reduceBEq, CO13, CO22, CO21, CO15, CO50, CO35, CO30, CO42, CO43, CO39, CO14, CO8, CO9, CO24, CO25, CO26, CO27, CO12, CO40, CO36, CO37, CO16, CO17, CO45, CO20, CO38, CO18, CO19, CO0]
  refine goI_pure (c33 _ 34 [] [.fptr (.sl (.int .u8)) p] (fun i => (p.l.length : Int) + 1 - p.l.getD i 0) (by omega) rfl rfl (fun i hi => c34 i p (by omega) hp)) ?_
  rintro _ rfl
  simp only [go_nil, go_ret, go_gh, go_ops0, go_opsK, keepM_nil, keepM_lo, FB, Nat.reducePow, Nat.reduceDiv, Nat.reduceMod, go_opsP, unl, gh1, wantD, dpure, ev, lk, putD, nbeqB,  ↓cond_true, ↓cond_false, Option.map_some, sideP, Ty.D, fnQ, dress, dres1, unl, finDV, frzV, sidesP, DV.kill, decide_false, beq_self_eq_true, eq_self, true_and, Nat.reduceLeDiff, Nat.reduceBEq, Int.toNat_natCast, true_and, eq_self]
  rfl
theorem c11 (p q : Sl Int) (hp : Perm p.l) (hq : Perm q.l) (hpq : q.l.length = p.l.length) : PCalls Try.prog 11 [.sl (.int .u8) p, .sl (.int .u8) q] (fun d => ∃ j : List Int, isJoin p.l q.l j ∧ d = .tup [.sl (.int .u8) ⟨j, some p.l.length⟩, .int .i64 0]) := by
  refine PCalls.go ok ck13 (c := d11) (rs := r11) Try.func11 rfl (by kernel_rfl) (by kernel_rfl) rfl rfl rfl ?_
  have hl := hp.len
  simp (config := { maxSteps := 20000000 }) only [d11, r11, go_nil, go_skip, go_reg, go_seq, go_cond, go_ret, go_gh, go_codeR, go_ops0, go_opsK, keepM_nil, keepM_lo, FB, Nat.reducePow, Nat.reduceDiv, Nat.reduceMod, go_opsP, go_opsC, endP, brB_not, brB_dec, unS_and, tgtD, unl, callD, gh1, wantD, dpure, ev, evs, lk, putD, killT, argsD, nbeqB,  ↓cond_true, ↓cond_false, Option.map_some, sideP, dBin, Ty.D, fnQ, dress, dres1, unl, finDV, frzV, frzVs, sidesP, DV.kill, DV.killL, decide_true, decide_false, Nat.zero_add, beq_self_eq_true, List.append_nil, List.nil_append, eq_self, true_and, Nat.reduceLeDiff, Nat.reduceBEq, CO13, CO22, CO21, CO15, CO50, CO35, CO30, CO42, CO43, CO39, CO14, CO8, CO9, CO24, CO25, CO26, CO27, CO12, CO40, CO36, CO37, CO16, CO17, CO45, CO20, CO38, CO18, CO19, CO0]
  have h3 := chk_both hp hq hpq
  refine ⟨⟨by omega, by omega⟩, fun _ => ?_, fun r => absurd h3 r⟩
  refine goI_pure (c32 p hp) ?_
  rintro _ rfl
  simp only [go_opsP, go_opsC, tgtD, callD, wantD, dpure, ev, evs, lk, putD, nbeqB,  ↓cond_true, ↓cond_false, Option.map_some, sideP, beq_self_eq_true, List.append_nil, List.nil_append, Nat.reduceBEq, CO13, CO22, CO21, CO15, CO50, CO35, CO30, CO42, CO43, CO39, CO14, CO8, CO9, CO24, CO25, CO26, CO27, CO12, CO40, CO36, CO37, CO16, CO17, CO45, CO20, CO38, CO18, CO19, CO0]
  refine goI_pure (c32 q hq) ?_
  rintro _ rfl
  simp only [go_opsC, tgtD, callD, wantD, ev, evs, lk, putD, nbeqB,  ↓cond_true, ↓cond_false, Option.map_some, beq_self_eq_true, Nat.reduceBEq, CO13, CO22, CO21, CO15, CO50, CO35, CO30, CO42, CO43, CO39, CO14, CO8, CO9, CO24, CO25, CO26, CO27, CO12, CO40, CO36, CO37, CO16, CO17, CO45, CO20, CO38, CO18, CO19, CO0]
  refine goI_pure (c31 (turnS p.l) (turnS q.l) (turn_perm hp) (turn_perm hq) (by rw [turnS_len, turnS_len, hpq])) ?_
  rintro _ ⟨a, a1, a2, a3, rfl⟩
  simp only [go_opsC, tgtD, callD, wantD, ev, evs, lk, putD, nbeqB,  ↓cond_true, ↓cond_false, beq_self_eq_true, List.append_nil, List.nil_append, Nat.reduceBEq, CO13, CO22, CO21, CO15, CO50, CO35, CO30, CO42, CO43, CO39, CO14, CO8, CO9, CO24, CO25, CO26, CO27, CO12, CO40, CO36, CO37, CO16, CO17, CO45, CO20, CO38, CO18, CO19, CO0]
  have hm : isMeet (turnS p.l).l (turnS q.l).l (backS (a.map (· + 1))).l := ⟨a, a1, a2, a3, rfl⟩
  have hml := isMeet_len hm
  rw [turnS_len] at hml
  refine goI_pure (c32 (backS (a.map (· + 1))) (isMeet_perm (turn_perm hp) hm)) ?_
  rintro _ rfl
  simp only [go_nil, go_ret, go_gh, go_ops0, go_opsK, keepM_nil, keepM_lo, FB, Nat.reducePow, Nat.reduceDiv, Nat.reduceMod, go_opsP, unl, gh1, wantD, dpure, ev, lk, putD, nbeqB,  ↓cond_true, ↓cond_false, Option.map_some, sideP, fnQ, dress, dres1, unl, finDV, frzV, frzVs, sidesP, DV.kill, DV.killL, decide_false, beq_self_eq_true, List.append_nil, eq_self, and_true, true_and, Nat.reduceLeDiff, Nat.reduceBEq, DV.tup.injEq, List.cons.injEq, true_and, and_true, eq_self]
  refine ⟨_, ⟨_, hm, rfl⟩, ?_⟩
  unfold turnS tab
  rw [hml]

theorem c3 (x y z : Sl Int) (hp : U8s x.l ∧ U8s y.l ∧ U8s z.l ∧ x.l.length ≤ 140737488351232 ∧ y.l.length ≤ 140737488351232 ∧ z.l.length ≤ 140737488351232) : PCalls Try.prog 3 [.sl (.int .u8) x, .sl (.int .u8) y, .sl (.int .u8) z] (fun d => d = .bool true) := by
  refine PCalls.go ok ck13 (c := d3) (rs := r3) Try.func3 rfl (by kernel_rfl) (by kernel_rfl) rfl rfl rfl ?_
  simp (config := { maxSteps := 20000000 }) only [d3, r3, go_reg, go_seq, go_ops0, go_opsK, keepM_nil, keepM_lo, FB, Nat.reducePow, Nat.reduceDiv, Nat.reduceMod, go_opsP, go_opsC, endP, unS_and, tgtD, callD, wantD, dpure, ev, evs, lk, putD, killT, argsD, nbeqB,  ↓cond_true, ↓cond_false, Option.map_some, sideP, lenD, Ty.D, decide_false, Nat.reduceAdd, Nat.zero_add, beq_self_eq_true, eq_self, Nat.reduceLeDiff, Nat.reduceBEq, CO13, CO22, CO21, CO15, CO50, CO35, CO30, CO42, CO43, CO39, CO14, CO8, CO9, CO24, CO25, CO26, CO27, CO12, CO40, CO36, CO37, CO16, CO17, CO45, CO20, CO38, CO18, CO19, ofS_len, CO0]
  obtain ⟨u1, u2, u3, u4, u5, u6⟩ := hp
  have hn := ofN_bd x.l
  have hP := ofS_perm x.l
  have hQ : Perm (asS y.l (ofN x.l)).l := ofS_perm _
  have hR : Perm (asS z.l (ofN x.l)).l := ofS_perm _
  have hPQ : (asS y.l (ofN x.l)).l.length = (ofS x.l).l.length := by rw [ofS_len, asS_len]
  have hPR : (asS z.l (ofN x.l)).l.length = (ofS x.l).l.length := by rw [ofS_len, asS_len]
  refine ⟨u1, ⟨u2, by omega, by omega, u5⟩, ⟨u3, by omega, by omega, u6⟩, ?_⟩
  generalize ofS x.l = P at *
  generalize asS y.l (ofN x.l) = Q at *
  generalize asS z.l (ofN x.l) = R at *
  clear u1 u2 u3 u4 u5 u6 hn
  have hl := hP.len
  refine goI_pure (c10 P Q hP hQ hPQ) ?_
  rintro _ ⟨m, hm, rfl⟩
  simp (config := { maxSteps := 20000000 }) only [go_reg, go_seq, go_ops0, go_opsK, keepM_nil, keepM_lo, FB, Nat.reducePow, Nat.reduceDiv, Nat.reduceMod, go_opsP, go_opsC, tgtD, callD, wantD, dpure, ev, evs, lk, putD, nbeqB,  ↓cond_true, ↓cond_false, Option.map_some, sideP, Ty.D, decide_false, beq_self_eq_true, eq_self, List.getElem?_cons_zero, List.getElem?_cons_succ, Nat.reduceLeDiff, Nat.reduceBEq, CO13, CO22, CO21, CO15, CO50, CO35, CO30, CO42, CO43, CO39, CO14, CO8, CO9, CO24, CO25, CO26, CO27, CO12, CO40, CO36, CO37, CO16, CO17, CO45, CO20, CO38, CO18, CO19, CO0]
  refine goI_pure (c11 P Q hP hQ hPQ) ?_
  rintro _ ⟨j, hj, rfl⟩
  have ml := isMeet_len hm
  have mP := isMeet_perm hP hm
  have mc := mP.chk
  have jl := isJoin_len hj
  have jP := isJoin_perm hP hj
  have jc := jP.chk
  obtain ⟨m1, m2⟩ := wi_meet hP hm
  obtain ⟨j1, j2⟩ := wi_join hP hQ hPQ hj
  simp (config := { maxSteps := 20000000 }) only [ml, mc, jl, jc, m1, m2, j1, j2, go_nil, go_skip, go_reg, go_seq, go_cond, go_ret, go_codeR, go_ops0, go_opsK, go_opsM, keepM_nil, keepM_lo, dropM_nil, dropM_lo, FB, Nat.reducePow, Nat.reduceDiv, Nat.reduceMod, go_opsP, go_opsC, ↓brB_true, ↓brB_false, brB_not, brB_dec, ↓brM_false, unS_stp, unS_and, brM_mm, bif_ff, tgtD, unl, callD, wantD, dpure, ev, evs, lk, putD, killT, nbeqB,  ↓cond_true, ↓cond_false, Option.map_some, sideP, lenD, capD, dBin, dPick, Ty.D, fnQ, dress, dres1, unl, finDV, frzV, sidesP, DV.kill, decide_true, decide_false, beq_self_eq_true, Bool.and_true, eq_self, List.getElem?_cons_zero, List.getElem?_cons_succ, and_true, Nat.reduceLeDiff, Bool.not_true, Nat.reduceBEq, CO13, CO22, CO21, CO15, CO50, CO35, CO30, CO42, CO43, CO39, CO14, CO8, CO9, CO24, CO25, CO26, CO27, CO12, CO40, CO36, CO37, CO16, CO17, CO45, CO20, CO38, CO18, CO19, CO0]
  have ew : IntKind.i64.wrap ((P.l.length : Int) + P.l.length) = IntKind.i64.wrap (2 * (P.l.length : Int)) := by
    rw [show (P.l.length : Int) + P.l.length = 2 * (P.l.length : Int) by omega]
  refine ⟨by omega, by omega, fun _ => ⟨by omega, ⟨by omega, by omega⟩, by omega, ⟨by omega, by omega⟩, ?_⟩, fun q => absurd ew q⟩
  refine goI_pure (c10 ⟨m, some P.l.length⟩ R mP hR (by show R.l.length = m.length; omega)) ?_
  rintro _ ⟨lo, hlo, rfl⟩
  simp (config := { maxSteps := 20000000 }) only [ml, go_reg, go_seq, go_ops0, go_opsK, keepM_nil, keepM_lo, FB, Nat.reducePow, Nat.reduceDiv, Nat.reduceMod, go_opsP, go_opsC, tgtD, callD, wantD, dpure, ev, evs, lk, putD, nbeqB,  ↓cond_true, ↓cond_false, Option.map_some, sideP, Ty.D, decide_false, beq_self_eq_true, eq_self, List.getElem?_cons_zero, List.getElem?_cons_succ, Nat.reduceLeDiff, Nat.reduceBEq, CO13, CO22, CO21, CO15, CO50, CO35, CO30, CO42, CO43, CO39, CO14, CO8, CO9, CO24, CO25, CO26, CO27, CO12, CO40, CO36, CO37, CO16, CO17, CO45, CO20, CO38, CO18, CO19, CO0]
  refine goI_pure (c11 ⟨j, some P.l.length⟩ R jP hR (by show R.l.length = j.length; omega)) ?_
  rintro _ ⟨up, hup, rfl⟩
  simp (config := { maxSteps := 20000000 }) only [jl, go_reg, go_seq, go_ops0, go_opsK, keepM_nil, keepM_lo, FB, Nat.reducePow, Nat.reduceDiv, Nat.reduceMod, go_opsP, go_opsC, tgtD, callD, wantD, dpure, ev, evs, lk, putD, nbeqB,  ↓cond_true, ↓cond_false, Option.map_some, sideP, Ty.D, decide_false, beq_self_eq_true, eq_self, List.getElem?_cons_zero, List.getElem?_cons_succ, Nat.reduceLeDiff, Nat.reduceBEq, CO13, CO22, CO21, CO15, CO50, CO35, CO30, CO42, CO43, CO39, CO14, CO8, CO9, CO24, CO25, CO26, CO27, CO12, CO40, CO36, CO37, CO16, CO17, CO45, CO20, CO38, CO18, CO19, CO0]
  refine goI_pure (c10 R Q hR hQ (by omega)) ?_
  rintro _ ⟨ot, hot, rfl⟩
  have hlo : isMeet m R.l lo := hlo
  have hup : isJoin j R.l up := hup
  have ll := isMeet_len hlo
  have ul := isJoin_len hup
  have ol := isMeet_len hot
  have oP := isMeet_perm hR hot
  have lP := isMeet_perm mP hlo
  obtain ⟨l1, l2⟩ := wi_meet mP hlo
  obtain ⟨o1, o2⟩ := wi_meet hR hot
  obtain ⟨p1, p2⟩ := wi_join jP hR (by omega) hup
  -- what is below both is below the meet, what is above both above the join
  have k1 : wiB R.l P.l = true → wiB R.l Q.l = true → wiB R.l m = true := meet_max hP hR hPR hm
  have k2 : wiB P.l R.l = true → wiB Q.l R.l = true → wiB j R.l = true := join_min hP hQ hR hPQ hPR hj
  have k3 : wiB ot P.l = true → wiB ot m = true := fun q => meet_max hP oP (by omega) hm q o2
  simp (config := { maxSteps := 20000000 }) only [ml, jl, ol, hPR, hPQ, go_nil, go_skip, go_reg, go_seq, go_cond, go_ret, go_codeR, go_ops0, go_opsK, go_opsM, keepM_nil, keepM_lo, dropM_nil, dropM_lo, FB, Nat.reducePow, Nat.reduceDiv, Nat.reduceMod, go_opsP, go_opsC, ↓brB_true, ↓brB_false, brB_not, ↓brM_true, ↓brM_false, unS_stp, unS_and, brM_mm, brM_sm, brM_ms, and_goS, bif_ff, bif_tt, tgtD, unl, callD, wantD, dpure, ev, evs, lk, putD, killT, nbeqB,  ↓cond_true, ↓cond_false, Option.map_some, sideP, lenD, dBin, dPick, Ty.D, fnQ, dress, dres1, unl, finDV, frzV, sidesP, DV.kill, decide_true, decide_false, beq_self_eq_true, bTF, bFT, Bool.and_true, eq_self, List.getElem?_cons_zero, List.getElem?_cons_succ, and_true, Nat.reduceLeDiff, Bool.not_true, Bool.and_eq_true, Nat.reduceBEq, CO13, CO22, CO21, CO15, CO50, CO35, CO30, CO42, CO43, CO39, CO14, CO8, CO9, CO24, CO25, CO26, CO27, CO12, CO40, CO36, CO37, CO16, CO17, CO45, CO20, CO38, CO18, CO19, CO0]
  have b1 : (wiB R.l P.l && wiB R.l Q.l && !wiB R.l m) = false := by
    cases q1 : wiB R.l P.l <;> cases q2 : wiB R.l Q.l <;> try rfl
    rw [k1 q1 q2]; rfl
  have b2 : (wiB P.l R.l && wiB Q.l R.l && !wiB j R.l) = false := by
    cases q1 : wiB P.l R.l <;> cases q2 : wiB Q.l R.l <;> try rfl
    rw [k2 q1 q2]; rfl
  have b3 : (wiB ot P.l && !wiB ot m) = false := by
    cases q1 : wiB ot P.l <;> try rfl
    rw [k3 q1]; rfl
  have hlt : P.l.length < 1000 := by omega
  refine ⟨hlt, fun _ => hlt, fun _ => hlt, fun _ => ⟨hlt, fun _ => hlt, fun _ => hlt⟩, fun _ => ⟨hlt, fun _ => hlt⟩, ?_⟩
  rw [b1, b2, b3, Bool.or_self, Bool.or_self, brB_false]
  clear b1 b2 b3 k1 k2 k3
  refine goI_pure (c10 Q P hQ hP hPQ.symm) ?_
  rintro _ ⟨a, ha, rfl⟩
  simp (config := { maxSteps := 20000000 }) only [hPQ, go_reg, go_seq, go_ops0, go_opsK, keepM_nil, keepM_lo, FB, Nat.reducePow, Nat.reduceDiv, Nat.reduceMod, go_opsP, go_opsC, tgtD, callD, wantD, dpure, ev, evs, lk, putD, nbeqB,  ↓cond_true, ↓cond_false, Option.map_some, sideP, Ty.D, decide_false, beq_self_eq_true, eq_self, List.getElem?_cons_zero, List.getElem?_cons_succ, Nat.reduceLeDiff, Nat.reduceBEq, CO13, CO22, CO21, CO15, CO50, CO35, CO30, CO42, CO43, CO39, CO14, CO8, CO9, CO24, CO25, CO26, CO27, CO12, CO40, CO36, CO37, CO16, CO17, CO45, CO20, CO38, CO18, CO19, CO0]
  refine goI_pure (c11 Q P hQ hP hPQ.symm) ?_
  rintro _ ⟨b, hb, rfl⟩
  simp (config := { maxSteps := 20000000 }) only [hPQ, go_reg, go_seq, go_ops0, go_opsK, keepM_nil, keepM_lo, FB, Nat.reducePow, Nat.reduceDiv, Nat.reduceMod, go_opsP, go_opsC, tgtD, callD, wantD, dpure, ev, evs, lk, putD, nbeqB,  ↓cond_true, ↓cond_false, Option.map_some, sideP, Ty.D, decide_false, beq_self_eq_true, eq_self, List.getElem?_cons_zero, List.getElem?_cons_succ, Nat.reduceLeDiff, Nat.reduceBEq, CO13, CO22, CO21, CO15, CO50, CO35, CO30, CO42, CO43, CO39, CO14, CO8, CO9, CO24, CO25, CO26, CO27, CO12, CO40, CO36, CO37, CO16, CO17, CO45, CO20, CO38, CO18, CO19, CO0]
  refine goI_pure (c11 P ⟨m, some P.l.length⟩ hP mP ml) ?_
  rintro _ ⟨c, hc, rfl⟩
  simp (config := { maxSteps := 20000000 }) only [go_reg, go_seq, go_ops0, go_opsK, keepM_nil, keepM_lo, FB, Nat.reducePow, Nat.reduceDiv, Nat.reduceMod, go_opsP, go_opsC, tgtD, callD, wantD, dpure, ev, evs, lk, putD, nbeqB,  ↓cond_true, ↓cond_false, Option.map_some, sideP, Ty.D, decide_false, beq_self_eq_true, eq_self, List.getElem?_cons_zero, List.getElem?_cons_succ, Nat.reduceLeDiff, Nat.reduceBEq, CO13, CO22, CO21, CO15, CO50, CO35, CO30, CO42, CO43, CO39, CO14, CO8, CO9, CO24, CO25, CO26, CO27, CO12, CO40, CO36, CO37, CO16, CO17, CO45, CO20, CO38, CO18, CO19, CO0]
  refine goI_pure (c10 P ⟨j, some P.l.length⟩ hP jP jl) ?_
  rintro _ ⟨d, hd, rfl⟩
  have hc : isJoin P.l m c := hc
  have hd : isMeet P.l j d := hd
  have al := isMeet_len ha
  have bl := isJoin_len hb
  have cl := isJoin_len hc
  have dl := isMeet_len hd
  have aP := isMeet_perm hQ ha
  have bP := isJoin_perm hQ hb
  have cP := isJoin_perm hP hc
  have dP := isMeet_perm hP hd
  have ea : a = m := by
    obtain ⟨g1, g2⟩ := wi_meet hQ ha
    exact wi_anti aP mP (by omega) (meet_max hP aP (by omega) hm g2 g1) (meet_max hQ mP (by omega) ha m2 m1)
  have eb : b = j := by
    obtain ⟨g1, g2⟩ := wi_join hQ hP hPQ.symm hb
    exact wi_anti bP jP (by omega) (join_min hQ hP jP hPQ.symm (by omega) hb j2 j1) (join_min hP hQ bP hPQ (by omega) hj g2 g1)
  have rf : ∀ u : List Int, wiB u u = true := fun u => wi_spec.2 fun _ _ _ _ h => h
  have ec : c = P.l := by
    obtain ⟨g1, _⟩ := wi_join hP mP ml hc
    exact wi_anti cP hP (by omega) (join_min hP mP hP ml rfl hc (rf _) m1) g1
  have ed : d = P.l := by
    obtain ⟨g1, _⟩ := wi_meet hP hd
    exact wi_anti dP hP (by omega) g1 (meet_max hP hP rfl hd (rf _) j1)
  subst ea eb ec ed
  simp (config := { maxSteps := 20000000 }) only [ml, jl, ll, ul, l1, p1, go_nil, go_reg, go_seq, go_ret, go_ops0, go_opsK, go_opsM, keepM_nil, keepM_lo, dropM_nil, dropM_lo, FB, Nat.reducePow, Nat.reduceDiv, Nat.reduceMod, go_opsP, go_opsC, ↓brM_true, ↓brM_false, unS_stp, unS_and, brM_mm, brM_sm, bif_ff, unl, callD, wantD, dpure, ev, evs, lk, putD, killT, nbeqB,  ↓cond_true, ↓cond_false, Option.map_some, sideP, dPick, Ty.D, fnQ, dress, dres1, unl, finDV, frzV, sidesP, DV.kill, decide_false, beq_self_eq_true, bFT, Bool.and_self, Bool.and_true, Option.getD_some, eq_self, List.getElem?_cons_zero, List.getElem?_cons_succ, and_true, Nat.reduceLeDiff, Bool.and_eq_true, and_self, Nat.reduceBEq, CO13, CO22, CO21, CO15, CO14, CO8, CO9, CO36, CO37, CO16, CO17, CO45, CO20, CO38, CO18, CO19]
  have s1 : ∀ u : List Int, u.length = P.l.length → sameB u u P.l.length = true := fun u h => by simp [sameB, h]
  rw [s1 _ ml, s1 _ jl, s1 _ rfl]
  exact ⟨hlt, hlt, ⟨by simp, mP.u8⟩, fun _ => ⟨by simp, jP.u8⟩, fun _ => ⟨by simp, hP.u8⟩, fun _ => ⟨by simp, hP.u8⟩, rfl⟩
end Go.Proofs.Ytpchlfmlolkeeaa

