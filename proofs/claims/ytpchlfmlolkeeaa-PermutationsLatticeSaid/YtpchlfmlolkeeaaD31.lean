/-
  The data layer: functions that are ranged over, and the loop over one.
-/
import Derived.Test.YtpchlfmlolkeeaaD30
set_option linter.unusedSimpArgs false
set_option linter.unusedVariables false
namespace Go.Am
open Go Go.RowKit

variable {P : Program} {C : CF}

/-! Checks of names. -/

mutual
/-- None of some names is told. -/
def DV.nn (p : Nat → Bool) : DV → Bool
  | .osl j _ _ _ _ => !p j
  | .bptr j _ => !p j
  | .aptr j _ _ _ => !p j
  | .yl j => !p j
  | .agg l => DV.nnL p l
  | .tup l => DV.nnL p l
  | .clo _ xs us => DV.nnL p xs && DV.nnL p us
  | _ => true
def DV.nnL (p : Nat → Bool) : List DV → Bool
  | [] => true
  | d :: l => DV.nn p d && DV.nnL p l
end

mutual
theorem DV.nn_kill {p : Nat → Bool} : ∀ {d : DV}, DV.nn p d = true → d.kill p = d
  | .osl j _ _ _ _, h => by simp only [DV.nn, Bool.not_eq_true'] at h; simp only [DV.kill, h, cond_false]
  | .bptr j _, h => by simp only [DV.nn, Bool.not_eq_true'] at h; simp only [DV.kill, h, cond_false]
  | .aptr j _ _ _, h => by simp only [DV.nn, Bool.not_eq_true'] at h; simp only [DV.kill, h, cond_false]
  | .yl j, h => by simp only [DV.nn, Bool.not_eq_true'] at h; simp only [DV.kill, h, cond_false]
  | .agg l, h => by simp only [DV.nn] at h; simp only [DV.kill, DV.nnL_kill h]
  | .tup l, h => by simp only [DV.nn] at h; simp only [DV.kill, DV.nnL_kill h]
  | .clo f xs us, h => by simp only [DV.nn, Bool.and_eq_true] at h; simp only [DV.kill, DV.nnL_kill h.1, DV.nnL_kill h.2]
  | .int .., _ | .bool .., _ | .lit .., _ | .str .., _ | .sl .., _ | .fptr .., _ | .nilF, _ | .nilP, _ | .nilI, _ | .nils, _ | .und, _ | .any, _ => by simp only [DV.kill]
theorem DV.nnL_kill {p : Nat → Bool} : ∀ {l : List DV}, DV.nnL p l = true → DV.killL p l = l
  | [], _ => rfl
  | d :: l, h => by simp only [DV.nnL, Bool.and_eq_true] at h; simp only [DV.killL, DV.nn_kill h.1, DV.nnL_kill h.2]
end

def Loc.nn (p : Nat → Bool) : Loc → Bool
  | .lp _ _ _ _ _ _ t => t.all fun x => DV.nn p x.2
  | .box cells => DV.nnL p cells
  | .arr _ _ => true

def nnT (p : Nat → Bool) (t : DT) : Bool := t.all fun x => DV.nn p x.2
def nnM (p : Nat → Bool) (m : List (Nat × Loc)) : Bool := m.all fun x => Loc.nn p x.2

theorem nnT_cons {p : Nat → Bool} {i : Nat} {d : DV} {t : DT} : nnT p ((i, d) :: t) = (DV.nn p d && nnT p t) := rfl
theorem nnT_nil {p : Nat → Bool} : nnT p [] = true := rfl
theorem nnM_cons {p : Nat → Bool} {i : Nat} {l : Loc} {t : List (Nat × Loc)} : nnM p ((i, l) :: t) = (Loc.nn p l && nnM p t) := rfl
theorem nnM_nil {p : Nat → Bool} : nnM p [] = true := rfl

theorem nnT_map {p : Nat → Bool} : ∀ {t : DT}, nnT p t = true → t.map (fun x => (x.1, DV.kill p x.2)) = t
  | [], _ => rfl
  | (i, d) :: t, h => by
    rw [nnT_cons, Bool.and_eq_true] at h
    simp only [List.map_cons, DV.nn_kill h.1, nnT_map h.2]

theorem Loc.nn_kill {p : Nat → Bool} : ∀ {l : Loc}, Loc.nn p l = true → l.kill p = l
  | .lp st pe n ps a b t, h => by simp only [Loc.kill]; rw [nnT_map h]
  | .box cells, h => by simp only [Loc.nn] at h; simp only [Loc.kill, DV.nnL_kill h]
  | .arr e xs, _ => rfl

theorem nnM_kill {p : Nat → Bool} : ∀ {m : List (Nat × Loc)}, nnM p m = true → killO p m = m
  | [], _ => rfl
  | (j, l) :: m, h => by
    rw [nnM_cons, Bool.and_eq_true] at h
    simp only [killO, Loc.nn_kill h.1, nnM_kill h.2]

theorem lkO_mem : ∀ {m : List (Nat × Loc)} {j : Nat} {l : Loc}, lkO m j = some l → (j, l) ∈ m
  | [], _, _, h => by cases h
  | (k, x) :: m, j, l, h => by
    by_cases hj : j = k
    · subst hj; rw [lkO_cons_eq] at h; cases h; simp
    · rw [lkO_cons_ne hj] at h; exact List.mem_cons_of_mem _ (lkO_mem h)

theorem lk_mem : ∀ {t : DT} {j : Nat} {d : DV}, lk t j = some d → (j, d) ∈ t
  | [], _, _, h => by cases h
  | (k, x) :: t, j, d, h => by
    simp only [lk] at h
    cases hb : Nat.beq j k with
    | true => rw [hb] at h; cases h; have := Nat.eq_of_beq_eq_true hb; subst this; simp
    | false => rw [hb] at h; exact List.mem_cons_of_mem _ (lk_mem h)

theorem nnM_lk {p : Nat → Bool} {m : List (Nat × Loc)} (h : nnM p m = true) {j : Nat} {l : Loc} (hj : lkO m j = some l) : l.kill p = l :=
  Loc.nn_kill (List.all_eq_true.1 h _ (lkO_mem hj))
theorem nnT_lk {p : Nat → Bool} {t : DT} (h : nnT p t = true) {j : Nat} {d : DV} (hj : lk t j = some d) : d.kill p = d :=
  DV.nn_kill (List.all_eq_true.1 h _ (lk_mem hj))

theorem rmO_no {r : Nat} : ∀ {m : List (Nat × Loc)}, lkO m r = none → rmO r m = m
  | [], _ => rfl
  | (k, x) :: m, h => by
    by_cases hj : r = k
    · subst hj; rw [lkO_cons_eq] at h; cases h
    · rw [lkO_cons_ne hj] at h
      simp only [rmO, beq_no hj, cond_false, rmO_no h]

theorem noE_isN {r : Nat} {m : List (Nat × Loc)} (hr : lkO m r = none) {j : Nat} (h : isN r j = true) : noE r m j = true := by
  have : j = r := Nat.eq_of_beq_eq_true h
  subst this
  unfold noE
  have : Nat.blt j j = false := by cases hb : Nat.blt j j with | false => rfl | true => simp at hb
  rw [this, hr]; rfl

mutual
theorem DV.nn_mono {p q : Nat → Bool} (hpq : ∀ j, q j = true → p j = true) : ∀ {d : DV}, DV.nn p d = true → DV.nn q d = true
  | .osl j _ _ _ _, h | .bptr j _, h | .aptr j _ _ _, h | .yl j, h => by
    simp only [DV.nn, Bool.not_eq_true'] at h ⊢
    exact Bool.eq_false_iff.2 fun e => by rw [hpq j e] at h; cases h
  | .agg l, h => by simp only [DV.nn] at h ⊢; exact DV.nnL_mono hpq h
  | .tup l, h => by simp only [DV.nn] at h ⊢; exact DV.nnL_mono hpq h
  | .clo f xs us, h => by simp only [DV.nn, Bool.and_eq_true] at h ⊢; exact ⟨DV.nnL_mono hpq h.1, DV.nnL_mono hpq h.2⟩
  | .int .., _ | .bool .., _ | .lit .., _ | .str .., _ | .sl .., _ | .fptr .., _ | .nilF, _ | .nilP, _ | .nilI, _ | .nils, _ | .und, _ | .any, _ => by simp only [DV.nn]
theorem DV.nnL_mono {p q : Nat → Bool} (hpq : ∀ j, q j = true → p j = true) : ∀ {l : List DV}, DV.nnL p l = true → DV.nnL q l = true
  | [], _ => rfl
  | d :: l, h => by simp only [DV.nnL, Bool.and_eq_true] at h ⊢; exact ⟨DV.nn_mono hpq h.1, DV.nnL_mono hpq h.2⟩
end

theorem nnT_mono {p q : Nat → Bool} (hpq : ∀ j, q j = true → p j = true) {t : DT} (h : nnT p t = true) : nnT q t = true := by
  unfold nnT at h ⊢
  rw [List.all_eq_true] at h ⊢
  exact fun x hx => DV.nn_mono hpq (h x hx)
theorem nnM_mono {p q : Nat → Bool} (hpq : ∀ j, q j = true → p j = true) {t : List (Nat × Loc)} (h : nnM p t = true) : nnM q t = true := by
  unfold nnM at h ⊢
  rw [List.all_eq_true] at h ⊢
  intro x hx
  have := h x hx
  cases hl : x.2 with
  | lp => rw [hl] at this; exact nnT_mono hpq this
  | box cells => rw [hl] at this; exact DV.nnL_mono hpq this
  | arr => rfl

mutual
/-- Only boxes of a set are named. -/
def DV.bd (S : Nat → Bool) : DV → Bool
  | .osl .. | .aptr .. | .yl _ => false
  | .bptr j _ => S j
  | .agg l => DV.bdL S l
  | .tup l => DV.bdL S l
  | .clo _ xs us => DV.bdL S xs && DV.bdL S us
  | _ => true
def DV.bdL (S : Nat → Bool) : List DV → Bool
  | [] => true
  | d :: l => DV.bd S d && DV.bdL S l
end

mutual
theorem DV.bd_sound {S : Nat → Bool} : ∀ {d : DV}, DV.bd S d = true → BD (fun j => S j = true) d
  | .bptr j _, h => .bptr _ h
  | .agg l, h => .agg (DV.bdL_sound h)
  | .tup l, h => .tup (DV.bdL_sound h)
  | .clo f xs us, h => by simp only [DV.bd, Bool.and_eq_true] at h; exact .clo (DV.bdL_sound h.1) (DV.bdL_sound h.2)
  | .int .., _ | .bool .., _ | .lit .., _ | .str .., _ | .sl .., _ | .fptr .., _ | .nilF, _ | .nilP, _ | .nilI, _ | .nils, _ | .und, _ | .any, _ => .free (by simp only [DV.kill])
theorem DV.bdL_sound {S : Nat → Bool} : ∀ {l : List DV}, DV.bdL S l = true → ∀ d ∈ l, BD (fun j => S j = true) d
  | [], _, d, hd => by cases hd
  | d :: l, h, e, he => by
    simp only [DV.bdL, Bool.and_eq_true] at h
    rcases List.mem_cons.1 he with h' | he
    · rw [h']; exact DV.bd_sound h.1
    · exact DV.bdL_sound h.2 e he
end

def isB (j : Nat) : Option DV → Bool
  | some (.bptr k _) => Nat.beq k j
  | _ => false
def hasB (t : DT) (j : Nat) : Bool := t.any fun x => isB j (lk t x.1)
theorem hasB_sound {t : DT} {j : Nat} (h : hasB t j = true) : ∃ i o, lk t i = some (.bptr j o) := by
  unfold hasB at h
  rw [List.any_eq_true] at h
  obtain ⟨x, _, hx⟩ := h
  unfold isB at hx
  split at hx
  · rename_i k o hl
    have := Nat.eq_of_beq_eq_true hx
    subst this
    exact ⟨x.1, o, hl⟩
  · cases hx

/-! Functions that are ranged over. -/

def ltT (t : DT) : Bool := t.all fun x => Nat.blt x.1 FB

/-- What a function that is ranged over yields, and what it needs for it. -/
def Iter (P : Program) (g : Nat) (xs us : List DV) {Y : Type} (f : Y → List DV) (ys : List Y) : Prop :=
  (∃ fn, P.funcs[g]? = some fn ∧ fn.body.isSome = true) ∧
  ∀ (X : Type) (t : DT) (r : Nat) (M : X → Own) (inv : List Y → X → Prop) (K : KT),
    (∀ y rest x, inv (y :: rest) x → ∀ o, (nnT (nisN r) o && ltT o) = true → DY P r (f y) (o ++ shT t) (M x) fun d t' L' =>
      (d = .bool true ∧ t' = o ++ shT t ∧ ∃ x', inv rest x' ∧ L' = M x') ∨ (d = .bool false ∧ ∃ t'', t' = o ++ shT t'' ∧ K (.tup []) t'' L')) →
    (∀ x, inv [] x → K (.tup []) t (M x)) → ∀ x, inv ys x → DI P g (xs ++ [.yl r] ++ us) t (M x) K

/-- A call that is entered in place, whatever is said of it. -/
def inK (rs : List DRes) (K : KT) (e : AEx) (s : DS) : Prop :=
  match e with
  | .normal | .ret => match dresL s.t s.L.m rs with
    | some (ps, l) => sidesP ps (K (finDV l) (unT s.t) s.L)
    | none => False
  | _ => False

theorem DI_in (Kp : POk P) (hC : CFOk P C) {f : Nat} {fn : Func} {c0 : Code} {c : DCode} {rs : List DRes} {ds : List DV} {t : DT} {L : Own} {K : KT} (hf : P.funcs[f]? = some fn) (hb : fn.body = some c0) (hr : resCode P fn.ntmps c0 c = true) (hres : resRess P fn.results.toList rs = true)
    (hn : Nat.ble ds.length fn.ntmps = true) (hlt : Nat.ble fn.ntmps FB = true) (H : go P ⟨fn.ntmps, true⟩ C .normal [.code c] (inK rs K) ⟨argsD 0 ds ++ shT t, L⟩) : DI P f ds t L K := by
  have hn := Nat.le_of_ble_eq_true hn
  have hlt := Nat.le_of_ble_eq_true hlt
  refine ⟨⟨fn, hf, by rw [hb]; rfl⟩, fun E η s0 vs B0 B R hp => ?_⟩
  have hlen : vs.length = ds.length := hp.1.symm
  let E' : Env := ⟨E.h, E.η, E.O, E.G, shP (s0.t ++ E.sv), s0.d ++ E.dv⟩
  have hge : ∀ i v, look? (argsPT 0 vs) i = some v → i < FB := fun i v hv => by
    have h2 := (List.getElem?_eq_some_iff.1 (argsPT_look vs 0 i v hv).2).1
    omega
  have R' : RS E' η ⟨argsD 0 ds ++ shT t, L⟩ ⟨argsPT 0 vs, s0.h, []⟩ := by
    refine ⟨fun i d hd => ?_, ⟨R.hs.own, R.hs.gone, R.hs.le, R.hs.keep, R.hs.mine, R.hs.fix, R.hs.rs, R.hs.bk, R.hs.nm⟩, ⟨fun b hb => R.d.get b hb, R.d.nd⟩, hge, fun i v hv => look_shP_ge _ i v hv⟩
    rw [lk_append] at hd
    cases h1 : lk (argsD 0 ds) i with
    | some d0 =>
      rw [h1] at hd
      cases hd
      obtain ⟨v, g1, g2⟩ := argsD_look ds vs 0 hp i _ h1
      exact ⟨v, by rw [look_append, g1]; rfl, g2⟩
    | none =>
      rw [h1] at hd
      obtain ⟨k, rfl, hk⟩ := lk_shT t i d hd
      obtain ⟨v, g1, g2⟩ := R.slots k d hk
      refine ⟨v, ?_, g2⟩
      rw [look_append]
      have : look? (argsPT 0 vs) (k + FB) = none := by
        cases hx : look? (argsPT 0 vs) (k + FB) with
        | none => rfl
        | some x => have := hge _ _ hx; omega
      rw [this]
      show look? (shP (s0.t ++ E.sv)) (k + FB) = some v
      rw [look_shP]; exact g1
  refine ACalls.of_bodyL hf hb (by omega) fun N => ?_
  refine (go_sound (n := ⟨fn.ntmps, true⟩) Kp hC c c0 [] _ _ hr H E' η _ N B0 R').mono fun e s' ⟨η', ds', q, r'⟩ => ?_
  replace q : inK rs K e ds' := by
    have q' : go P ⟨fn.ntmps, true⟩ C e [] (inK rs K) ds' := q
    rw [go_nil] at q'; exact q'
  have fin : (match dresL ds'.t ds'.L.m rs with
    | some (ps, l) => sidesP ps (K (finDV l) (unT ds'.t) ds'.L)
    | none => False) → Left s'.h s'.d ∧ ∃ v, presults P fn ⟨s'.t, killA s'.h s'.d, []⟩ = some v ∧ ∃ d t' L' η', K d t' L' ∧ RdV (killA s'.h s'.d) (Fz E.gd η' L'.m) η' d v ∧ RS E η' ⟨t', L'⟩ ⟨s0.t, killA s'.h s'.d, s0.d⟩ := by
    intro q
    split at q
    · rename_i ps l hl
      obtain ⟨hps, hgo⟩ := sidesP_sound q
      obtain ⟨hleft, Ru⟩ := r'.unwind
      obtain ⟨l', ws, hk, hm, hpv⟩ := dress_sound Ru rs _ (fun l' => l' = l) hres (dresL_dress rs ps l _ hl hps rfl)
      subst hk
      have hv : ∃ v, presults P fn ⟨s'.t, killA s'.h s'.d, []⟩ = some v ∧ RdV (killA s'.h s'.d) (Fz E'.gd η' ds'.L.m) η' (finDV l') v := by
        unfold presults
        rw [hm]
        match l', ws, hpv with
        | [], [], hpv => exact ⟨_, rfl, .tup rfl fun i d x hd hx => by simp at hd⟩
        | [d], [v], hpv => exact ⟨v, rfl, hpv.2 0 d v rfl rfl⟩
        | d :: d2 :: l, v :: v2 :: vs, hpv => exact ⟨_, rfl, .tup (by have := hpv.1; simpa using this) fun i d x hd hx => hpv.2 i d x hd (by simpa using hx)⟩
        | [], _ :: _, hpv => have := hpv.1; simp at this
        | _ :: _, [], hpv => have := hpv.1; simp at this
        | [_], _ :: _ :: _, hpv => have := hpv.1; simp at this
        | _ :: _ :: _, [_], hpv => have := hpv.1; simp at this
      obtain ⟨v, h1, h2⟩ := hv
      refine ⟨hleft, v, h1, finDV l', unT ds'.t, ds'.L, η', hgo, h2, ⟨fun i d hd => ?_, ⟨Ru.hs.own, Ru.hs.gone, Ru.hs.le, Ru.hs.keep, Ru.hs.mine, Ru.hs.fix, Ru.hs.rs, Ru.hs.bk, Ru.hs.nm⟩, ⟨fun b hb => Ru.d.get b hb, Ru.d.nd⟩, R.lt, R.sv⟩⟩
      obtain ⟨v, g1, g2⟩ := Ru.slots _ d (lk_unT _ i d hd)
      refine ⟨v, ?_, g2⟩
      have := Ru.wait (by omega) g1
      rw [show E'.sv = shP (s0.t ++ E.sv) from rfl, look_shP] at this
      exact this
    · exact q.elim
  cases e with
  | normal => exact fin q
  | ret => exact fin q
  | exit id => exact q.elim
  | goto l => exact q.elim

theorem unT_sh : ∀ t : DT, unT (shT t) = t
  | [] => rfl
  | (i, d) :: t => by
    simp only [shT, List.map_cons, unT]
    have : decide (FB ≤ i + FB) = true := decide_eq_true (Nat.le_add_left _ _)
    rw [this]
    have e : i + FB - FB = i := Nat.add_sub_cancel i FB
    have e2 := unT_sh t
    unfold shT at e2
    rw [cond_true, e, e2]
theorem unT_cons {i : Nat} {d : DV} {t : DT} (h : Nat.blt i FB = true) : unT ((i, d) :: t) = unT t := by
  have : decide (FB ≤ i) = false := by
    rw [Nat.blt_eq] at h
    exact decide_eq_false (by omega)
  simp only [unT, this, cond_false]

/-- Own slots are forgotten, or told in another order; waiting ones stay. -/
def SubX (a : DT) : DT → Prop
  | [] => True
  | (i, d) :: r => lk a i = some d ∧ SubX a r

theorem SubX.get {a : DT} : ∀ {a' : DT}, SubX a a' → ∀ i d, lk a' i = some d → lk a i = some d
  | [], _, i, d, h => by cases h
  | (k, x) :: r, hs, i, d, h => by
    simp only [lk] at h
    cases hb : Nat.beq i k with
    | true => rw [hb] at h; cases h; have := Nat.eq_of_beq_eq_true hb; subst this; exact hs.1
    | false => rw [hb] at h; exact SubX.get hs.2 i d h

theorem ltT_ge {a : DT} (h : ltT a = true) {i : Nat} (hi : FB ≤ i) : lk a i = none := by
  cases hl : lk a i with
  | none => rfl
  | some d =>
    have := List.all_eq_true.1 h _ (lk_mem hl)
    rw [Nat.blt_eq] at this
    exact absurd hi (by show ¬ FB ≤ (i, d).1; omega)

theorem DEnt.ov {a a' w : DT} {L : Own} (h : SubX a a') (h1 : ltT a = true) (h2 : ltT a' = true) : DEnt ⟨a ++ shT w, L⟩ ⟨a' ++ shT w, L⟩ := by
  intro E η s R
  refine ⟨η, fun i d hd => ?_, R.hs, R.d, R.lt, R.sv⟩
  refine R.slots i d ?_
  rw [lk_append] at hd ⊢
  cases hl : lk a' i with
  | some x => rw [hl] at hd; cases hd; rw [h.get i _ hl]; rfl
  | none =>
    rw [hl] at hd
    have hd : lk (shT w) i = some d := hd
    obtain ⟨k, hk, _⟩ := lk_shT w i d hd
    rw [ltT_ge h1 (by omega)]
    exact hd

theorem DEnt.un {s1 : DS} : DEnt s1 ⟨shT (unT s1.t), s1.L⟩ := by
  intro E η s R
  refine ⟨η, fun i d hd => ?_, R.hs, R.d, R.lt, R.sv⟩
  obtain ⟨k, rfl, hk⟩ := lk_shT _ i d hd
  exact R.slots _ d (lk_unT _ k d hk)

/-! The loop over such a function. -/

def lowT (t : DT) : DT := t.filter fun x => Nat.blt x.1 FB

theorem lk_lowT : ∀ {t : DT} {i : Nat} {d : DV}, lk (lowT t) i = some d → lk t i = some d ∧ i < FB
  | [], i, d, h => by cases h
  | (k, x) :: t, i, d, h => by
    cases hk : Nat.blt k FB with
    | true =>
      simp only [lowT, List.filter_cons, hk, if_true, lk] at h
      simp only [lk]
      cases hb : Nat.beq i k with
      | true =>
        rw [hb] at h
        have := Nat.eq_of_beq_eq_true hb
        subst this
        exact ⟨h, by simpa [Nat.blt_eq] using hk⟩
      | false => rw [hb] at h; exact lk_lowT (t := t) h
    | false =>
      simp only [lowT, List.filter_cons, hk] at h
      obtain ⟨h1, h2⟩ := lk_lowT (t := t) h
      refine ⟨?_, h2⟩
      simp only [lk]
      have : i ≠ k := fun e => by subst e; have : Nat.blt i FB = true := by simpa [Nat.blt_eq] using h2
                                  rw [this] at hk; cases hk
      rw [beq_no this]; exact h1

def ownOk (r : Nat) (L : Own) : Bool := Nat.beq L.fx r && Nat.blt r L.nx && (lkO L.m r).isNone
/-- What is to hold of the slots and of one's own memory at a round's head. -/
def rngOk (r : Nat) (tk : DT) (L : Own) : Bool := ownOk r L && nnM (noE r L.m) L.m && nnT (noE r L.m) tk && (lowT tk).all fun x => DV.bd (hasB tk) x.2
/-- What is to hold where a round is left for good. -/
def outOk (r : Nat) (t : DT) (L : Own) : Bool := ownOk r L && nnM (isN r) L.m && nnT (isN r) t

def rngQ {X Y : Type} (r : Nat) (tk : DT) (I : X → Own) (inv : List Y → X → Prop) (rest : List Y) (Q : QQ) : QQ
  | .normal, s1 => ∃ x', inv rest x' ∧ DEnt s1 ⟨shT tk, I x'⟩
  | e, s1 => ∃ t'' L'', DEnt s1 ⟨shT t'', L''⟩ ∧ outOk r t'' L'' = true ∧ Q e ⟨t'', L''⟩

theorem ownOk_sound {r : Nat} {L : Own} (h : ownOk r L = true) : L.fx = r ∧ r < L.nx ∧ lkO L.m r = none := by
  unfold ownOk at h
  simp only [Bool.and_eq_true] at h
  exact ⟨Nat.eq_of_beq_eq_true h.1.1, by simpa [Nat.blt_eq] using h.1.2, by simpa using h.2⟩

theorem lk_shT_add : ∀ (t : DT) (i : Nat), lk (shT t) (i + FB) = lk t i
  | [], i => rfl
  | (k, x) :: t, i => by
    simp only [shT, List.map_cons, lk]
    by_cases h : i = k
    · subst h; simp
    · rw [beq_no h, beq_no (by omega)]; exact lk_shT_add t i

theorem lk_app_sh {o t : DT} (ho : ltT o = true) (i : Nat) : lk (o ++ shT t) (i + FB) = lk t i := by
  rw [lk_append, ltT_ge ho (Nat.le_add_left _ _)]
  exact lk_shT_add t i

/-- A range over a function, by what holds at each round's head. -/
theorem DWc.rangeG (Kp : POk P) (hC : CFOk P C) {Y : Type} {f : Y → List DV} {ys : List Y} {g : Nat} {xs us : List DV} (hit : Iter P g xs us f ys) {X : Type} (r : Nat) (tk : DT) (I : X → Own) (inv : List Y → X → Prop) (x0 : X)
    {i n : Nat} {ps : List Nat} {a bd : DCode} {Q : QQ} {ds : DS} (hl : lk tk i = some (.clo g xs us)) (hent : DEnt ds ⟨tk, I x0⟩) (hok : ∀ x, rngOk r tk (I x) = true) (hargs : ∀ y, (f y).length = ps.length ∧ DV.nnL allN (f y) = true)
    (h0 : inv ys x0) (hend : ∀ x, inv [] x → Q .normal ⟨tk, I x⟩)
    (hround : ∀ y rest x, inv (y :: rest) x → go P ⟨n, false⟩ C .normal [.code a] (midQ P n C bd (rngQ r tk I inv rest Q)) ⟨setD (lowT tk) ps (f y) ++ shT tk, I x⟩) : DWc P ⟨n, true⟩ (.rfn (.t i) ps a bd) Q ds := by
  intro c0 hr
  cases c0 with
  | rangeFunc x0' qs ca cb =>
    cases x0' with
    | tmp j =>
      simp only [resCode, Bool.and_eq_true, beq_iff_eq] at hr
      obtain ⟨⟨⟨⟨⟨k1, k2⟩, k3⟩, k4⟩, k5⟩, k6⟩ := hr
      have := Nat.eq_of_beq_eq_true k1
      subst this
      subst k3
      rw [Nat.blt_eq] at k2
      refine DW.ent hent ?_
      have ok := fun x => by have := hok x; unfold rngOk at this; simp only [Bool.and_eq_true] at this; exact this
      have own := fun x => ownOk_sound (ok x).1.1.1
      have isn : ∀ x j, isN r j = true → noE r (I x).m j = true := fun x j h => noE_isN (own x).2.2 h
      have tkN : nnT (isN r) tk = true := nnT_mono (isn x0) (ok x0).1.2
      have mN : ∀ x, nnM (isN r) (I x).m = true := fun x => nnM_mono (isn x) (ok x).1.1.2
      obtain ⟨⟨fn, hf, hb⟩, hI⟩ := hit
      refine DW.rfn (r := r) (tb := lowT tk) (us := us) (xs := xs) (g := g) Kp k2 rfl hl hf hb (own x0).1 (own x0).2.1 (own x0).2.2 (fun j x hj => nnM_lk (mN x0) hj) (fun i d hd => nnT_lk tkN hd) (fun i d hd => lk_lowT hd) ?_
      refine hI X tk r (fun x => ⟨(I x).nx, r + 1, (r, .lp .ready .normal n qs.toList ca cb (lowT tk)) :: (I x).m⟩) inv _ ?_ ?_ x0 h0
      · intro y rest x hx o ho
        simp only [Bool.and_eq_true] at ho
        have hgo := hround y rest x hx
        have hIx : I x = ⟨(I x).nx, r, (I x).m⟩ := by have := (own x).1; cases h : I x; rw [h] at this; cases this; rfl
        rw [hIx] at hgo
        refine DY.round (S := fun j => hasB tk j = true) (t := tk) Kp hC (own x).2.2 k4 k5 k6 (hargs y).1 (fun j l hj => nnM_lk (ok x).1.1.2 hj) (fun i d hd => ?_) (fun d hd => ?_) (fun i d hd => ⟨nnT_lk (ok x).1.2 hd, ?_⟩) hgo fun e s1 q => ?_
        · refine ⟨nnT_lk (ok x).1.2 (lk_lowT hd).1, DV.bd_sound (List.all_eq_true.1 (ok x).2 _ (lk_mem hd))⟩
        · have h1 := DV.nnL_kill (hargs y).2
          obtain ⟨i, hi, rfl⟩ := List.getElem_of_mem hd
          refine kill_of_all ?_ _
          have := congrArg (fun l => l[i]?) h1
          rw [DV.killL_map] at this
          simpa [hi] using this
        · rw [lk_app_sh ho.2]; exact hd
        · have exit : ∀ e t'' L'', DEnt s1 ⟨shT t'', L''⟩ → outOk r t'' L'' = true → Q e ⟨t'', L''⟩ → ∃ st' nx' m', RndOk r (o ++ shT tk) (fun _ => False) s1 st' nx' m' ∧
              (fun (d : DV) (t' : DT) (L' : Own) => (d = .bool true ∧ t' = o ++ shT tk ∧ ∃ x', inv rest x' ∧ L' = (⟨(I x').nx, r + 1, (r, .lp .ready .normal n qs.toList ca cb (lowT tk)) :: (I x').m⟩ : Own)) ∨ (d = .bool false ∧ ∃ t'', t' = o ++ shT t'' ∧
                ∃ ls pe tb', L'.fx = r + 1 ∧ lkO L'.m r = some (.lp ls pe n qs.toList ca cb tb') ∧ ls ≠ .busy ∧ Q pe ⟨t''.map fun x => (x.1, DV.kill (isN r) x.2), ⟨L'.nx, r, killO (isN r) (rmO r L'.m)⟩⟩)) (.bool false) st' ⟨nx', r + 1, (r, .lp .done e n qs.toList ca cb []) :: m'⟩ := by
            intro e t'' L'' h1 h2 h3
            unfold outOk at h2
            simp only [Bool.and_eq_true] at h2
            obtain ⟨o1, o2, o3⟩ := ownOk_sound h2.1.1
            have hL : L'' = ⟨L''.nx, r, L''.m⟩ := by cases L''; cases o1; rfl
            refine ⟨o ++ shT t'', L''.nx, L''.m, ⟨shT t'', by rw [← hL]; exact h1, o3, o2, fun j l hj => nnM_lk h2.1.2 hj, fun j hj => hj.elim, fun i d hd => ?_⟩, .inr ⟨rfl, t'', rfl, .done, e, [], rfl, lkO_cons_eq, (fun h => nomatch h), ?_⟩⟩
            · rw [lk_append] at hd
              cases h4 : lk o i with
              | some d0 => rw [h4] at hd; cases hd; exact .inl ⟨by rw [lk_append, h4]; rfl, nnT_lk ho.1 h4⟩
              | none =>
                rw [h4] at hd
                have hd : lk (shT t'') i = some d := hd
                obtain ⟨k, rfl, hk⟩ := lk_shT t'' i d hd
                exact .inr ⟨Nat.le_add_left _ _, hd, nnT_lk h2.2 hk⟩
            · have e1 : rmO r ((r, Loc.lp .done e n qs.toList ca cb []) :: L''.m) = L''.m := by simp only [rmO, Nat.beq_refl, cond_true]; exact rmO_no o3
              show Q e ⟨_, ⟨L''.nx, r, killO (isN r) (rmO r ((r, Loc.lp .done e n qs.toList ca cb []) :: L''.m))⟩⟩
              rw [e1, nnM_kill h2.1.2, nnT_map h2.2, ← hL]
              exact h3
          cases e with
          | normal =>
            obtain ⟨x', h1, h2⟩ := q
            have hIx' : I x' = ⟨(I x').nx, r, (I x').m⟩ := by have := (own x').1; cases h : I x'; rw [h] at this; cases this; rfl
            refine ⟨o ++ shT tk, (I x').nx, (I x').m, ⟨shT tk, by rw [← hIx']; exact h2, (own x').2.2, (own x').2.1, fun j l hj => nnM_lk (mN x') hj, fun j hj => ?_, fun i d hd => ?_⟩, .inl ⟨rfl, rfl, x', h1, rfl⟩⟩
            · obtain ⟨i, oo, h3⟩ := hasB_sound hj
              refine ⟨i + FB, oo, Nat.le_add_left _ _, by rw [lk_app_sh ho.2]; exact h3, by rw [lk_shT_add]; exact h3, fun e => ?_⟩
              have h5 := nnT_lk tkN h3
              subst e
              simp [DV.kill, isN] at h5
            · rw [lk_append] at hd
              cases h4 : lk o i with
              | some d0 => rw [h4] at hd; cases hd; exact .inl ⟨by rw [lk_append, h4]; rfl, nnT_lk ho.1 h4⟩
              | none =>
                rw [h4] at hd
                have hd : lk (shT tk) i = some d := hd
                obtain ⟨k, rfl, hk⟩ := lk_shT tk i d hd
                exact .inr ⟨Nat.le_add_left _ _, hd, nnT_lk tkN hk⟩
          | exit id => obtain ⟨t'', L'', h1, h2, h3⟩ := q; exact exit _ t'' L'' h1 h2 h3
          | goto id => obtain ⟨t'', L'', h1, h2, h3⟩ := q; exact exit _ t'' L'' h1 h2 h3
          | ret => obtain ⟨t'', L'', h1, h2, h3⟩ := q; exact exit _ t'' L'' h1 h2 h3
      · intro x hx
        have e1 : rmO r ((r, Loc.lp .ready .normal n qs.toList ca cb (lowT tk)) :: (I x).m) = (I x).m := by simp only [rmO, Nat.beq_refl, cond_true]; exact rmO_no (own x).2.2
        refine ⟨.ready, .normal, _, rfl, lkO_cons_eq, (fun h => nomatch h), ?_⟩
        show Q .normal ⟨_, ⟨(I x).nx, r, killO (isN r) (rmO r ((r, Loc.lp .ready .normal n qs.toList ca cb (lowT tk)) :: (I x).m))⟩⟩
        have hIx : I x = ⟨(I x).nx, r, (I x).m⟩ := by have := (own x).1; cases h : I x; rw [h] at this; cases this; rfl
        rw [e1, nnM_kill (mN x), nnT_map tkN, ← hIx]
        exact hend x hx
    | const v => simp [resCode] at hr
    | global g => simp [resCode] at hr
    | func g => simp [resCode] at hr
  | _ => simp [resCode] at hr

end Go.Am

