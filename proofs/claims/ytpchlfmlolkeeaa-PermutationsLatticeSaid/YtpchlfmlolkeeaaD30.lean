/-
  The data layer: a round, as the function that was ranged over sees it; functions that are ranged over; the loop.
-/
import Derived.Test.YtpchlfmlolkeeaaD29
set_option linter.unusedSimpArgs false
set_option linter.unusedVariables false
namespace Go.Am
open Go Go.RowKit

variable {P : Program} {C : CF}

/-- The second part of a round. -/
def midQ (P : Program) (n : Nat) (C : CF) (bd : DCode) (Q : QQ) : QQ
  | .normal, s => go P ⟨n, false⟩ C .normal [.code bd] Q s
  | _, _ => False

/-- What stands at a round's end, for the function that waits. -/
def RndOk (r : Nat) (st : DT) (S : Nat → Prop) (s1 : DS) (st' : DT) (nx' : Nat) (m' : List (Nat × Loc)) : Prop :=
  ∃ t1, DEnt s1 ⟨t1, ⟨nx', r, m'⟩⟩ ∧ lkO m' r = none ∧ r < nx' ∧ (∀ j l, lkO m' j = some l → l.kill (isN r) = l) ∧
    (∀ j, S j → ∃ i o, FB ≤ i ∧ lk st i = some (.bptr j o) ∧ lk t1 i = some (.bptr j o) ∧ j ≠ r) ∧
    ∀ i d, lk st' i = some d → (lk st i = some d ∧ d.kill (nisN r) = d) ∨ (FB ≤ i ∧ lk t1 i = some d ∧ d.kill (isN r) = d)

def rndK (r n : Nat) (ps : List Nat) (ca cb : Code) (tb st : DT) (S : Nat → Prop) (K : KT) : QQ
  | .normal, s1 => ∃ st' nx' m', RndOk r st S s1 st' nx' m' ∧ K (.bool true) st' ⟨nx', r + 1, (r, .lp .ready .normal n ps ca cb tb) :: m'⟩
  | e, s1 => ∃ st' nx' m', RndOk r st (fun _ => False) s1 st' nx' m' ∧ K (.bool false) st' ⟨nx', r + 1, (r, .lp .done e n ps ca cb []) :: m'⟩

theorem stO_head {r : Nat} {l l' : Loc} {m : List (Nat × Loc)} : stO ((r, l) :: m) r l' = (r, l') :: m := by simp [stO]

theorem setD_get {B : Nat → DV → Prop} : ∀ (ps : List Nat) (ds : List DV) (t : DT), (∀ d ∈ ds, ∀ i, B i d) → (∀ i d, lk t i = some d → B i d) → ∀ i d, lk (setD t ps ds) i = some d → B i d
  | [], ds, t, _, H, i, d, hi => by simp only [setD] at hi; exact H i d hi
  | p :: ps, [], t, _, H, i, d, hi => by simp only [setD] at hi; exact H i d hi
  | p :: ps, d0 :: ds, t, hd, H, i, d, hi => by
    simp only [setD] at hi
    refine setD_get ps ds _ (fun d h => hd d (by simp [h])) (fun k x hx => ?_) i d hi
    simp only [lk] at hx
    cases hb : Nat.beq k p with
    | true => rw [hb] at hx; cases hx; exact hd d0 (by simp) k
    | false => rw [hb] at hx; exact H k x hx

/-- A round. -/
theorem DY.round (Kp : POk P) (hC : CFOk P C) {n r nx : Nat} {ps : List Nat} {ca cb : Code} {a bd : DCode} {tb t st : DT} {m : List (Nat × Loc)} {args : List DV} {K : KT} {S : Nat → Prop} {Q1 : QQ}
    (hr : lkO m r = none) (hps : (ps.all fun p => Nat.blt p n && Nat.blt p FB) = true) (hca : resCode P n ca a = true) (hcb : resCode P n cb bd = true) (hlen : args.length = ps.length)
    (hm : ∀ j l, lkO m j = some l → l.kill (noE r m) = l) (htb : ∀ i d, lk tb i = some d → d.kill (noE r m) = d ∧ BD S d) (hargs : ∀ d ∈ args, d.kill (noE r m) = d)
    (ht : ∀ i d, lk t i = some d → d.kill (noE r m) = d ∧ lk st (i + FB) = some d)
    (H : go P ⟨n, false⟩ C .normal [.code a] (midQ P n C bd Q1) ⟨setD tb ps args ++ shT t, ⟨nx, r, m⟩⟩) (hq : ∀ e s1, Q1 e s1 → rndK r n ps ca cb tb st S K e s1) :
    DY P r args st ⟨nx, r + 1, (r, .lp .ready .normal n ps ca cb tb) :: m⟩ K := by
  intro E η s vs b B0 Bs R hp hb o stp ho hk
  have HS0 := R.hs
  have hpl : ∃ pl, s.h.get b = .lp pl ∧ pl.state = .ready ∧ pl.pending = none ∧ pl.n = n ∧ pl.params = ps ∧ pl.assign = ca ∧ pl.body = cb ∧ (∀ i v, look? pl.t i = some v → i < FB) ∧
      ∀ i d, lk tb i = some d → ∃ v, look? pl.t i = some v ∧ RdV s.h (Fz E.gd η ((r, .lp .ready .normal n ps ca cb tb) :: m)) η d v := by
    rcases HS0.own.loc r _ lkO_cons_eq with ⟨c, h1, h2⟩ | ⟨⟨e, xs, q, _⟩, _⟩
    · have := HS0.own.fn r b c hb h1
      subst this
      generalize s.h.get b = ob at h2
      cases h2 with
      | lp hta hv => exact ⟨_, rfl, rfl, rfl, rfl, rfl, rfl, rfl, hta, hv⟩
    · cases q
  obtain ⟨pl, hg, p1, p2, p3, p4, p5, p6, hta, hv⟩ := hpl
  have hlv : vs.length = ps.length := by rw [← hlen]; exact hp.1.symm
  refine OpK.round ho hk hg (by rw [p4]; exact hlv) (by
    rw [p3, p4]
    rw [List.all_eq_true] at hps ⊢
    intro p hp'
    have := hps p hp'
    simp only [Bool.and_eq_true] at this
    exact this.1) fun N => ?_
  rw [p3, p4, p5, p6]
  have R1 := R.enter (tin := setD tb ps args ++ shT t) (ta := setP pl.t ps vs) hr hb hm (setP_lt ps vs _ (by
      rw [List.all_eq_true] at hps ⊢
      intro p hp'
      have := hps p hp'
      simp only [Bool.and_eq_true] at this
      exact this.2) hta) (by
    intro i d hd
    rw [lk_append] at hd
    cases h1 : lk (setD tb ps args) i with
    | some d0 =>
      rw [h1] at hd
      cases hd
      exact ⟨setD_get (B := fun _ d => d.kill (noE r m) = d) ps args tb (fun d h _ => hargs d h) (fun i d h => (htb i d h).1) i _ h1,
        .inl (setD_look ps args vs tb pl.t hp hv i _ h1)⟩
    | none =>
      rw [h1] at hd
      obtain ⟨k, rfl, hk⟩ := lk_shT t i d hd
      exact ⟨(ht k d hk).1, .inr ⟨Nat.le_add_left _ _, (ht k d hk).2⟩⟩)
  have hbn : b < s.h.n := (HS0.own.lt r b hb).2
  have hOb : ¬ (rdE E η m r b s.h).O b := fun ⟨j, l, q1, q2⟩ => (own_ne HS0 hr hb q1 q2).2 rfl
  refine (go_sound (n := ⟨n, false⟩) Kp hC a ca [] _ _ hca H _ _ _ N Bs R1).mono fun e s1 ⟨η1, ds1, q, r1⟩ => ?_
  have q : midQ P n C bd Q1 e ds1 := by
    have q' : go P ⟨n, false⟩ C e [] (midQ P n C bd Q1) ds1 := q
    rw [go_nil] at q'; exact q'
  cases e with
  | exit id => exact q.elim
  | goto l => exact q.elim
  | ret => exact q.elim
  | normal =>
  have q : go P ⟨n, false⟩ C .normal [.code bd] Q1 ds1 := q
  have hg1 : s1.h.get b = .lp pl := (r1.hs.keep b hbn hOb).trans hg
  refine ⟨pl, hg1, p1, fun N2 => ?_⟩
  have hη1 : ∀ j, ¬ η1 j b := fun j hη => by
    rcases r1.hs.nm j b hη with q | q | q
    · have q : s.h.n ≤ b := q; omega
    · exact hOb q
    · have q : η j b ∧ j < r := q
      have := HS0.own.inj j r b q.1 hb
      omega
  have hGb : ¬ (rdE E η m r b s.h).gd b := fun q => by
    rcases q with q | q
    · have q : s.h.n ≤ b := q; omega
    · exact q.2 rfl
  have hdv : b ∉ s1.d ++ (rdE E η m r b s.h).dv := fun hm' => by
    have := (r1.d.get b hm').2.2.2
    rw [hg1] at this
    cases this
  have Rp := r1.poke (pl' := { pl with state := .busy }) hbn hOb hGb hη1 hdv
  have Bp : Base P (s.h.set b (.lp { pl with state := .busy })) := Bs.setLp hg rfl
  refine (go_sound (n := ⟨n, false⟩) Kp hC bd cb [] _ _ hcb q _ _ _ N2 Bp Rp).mono fun e2 s2 ⟨η2, ds2, q2, r2⟩ => ?_
  have q2 : rndK r n ps ca cb tb st S K e2 ds2 := by
    have q' : go P ⟨n, false⟩ C e2 [] Q1 ds2 := q2
    rw [go_nil] at q'; exact hq e2 ds2 q'
  have hnone : ({ pl with state := .busy, pending := exCode .normal } : PLoop) = { pl with state := .busy } := by rw [show exCode .normal = none from rfl, ← p2]
  -- the end
  have fin : ∀ (S' : Nat → Prop) (tb' : DT) (e : AEx) (ls : LoopState) (st' : DT) (nx' : Nat) (m' : List (Nat × Loc)) (v : Bool), RndOk r st S' ds2 st' nx' m' → (∀ i d, lk tb' i = some d → lk tb i = some d ∧ BD S' d) →
      K (.bool v) st' ⟨nx', r + 1, (r, .lp ls e n ps ca cb tb') :: m'⟩ →
      ∃ pl2, s2.h.get b = .lp pl2 ∧ ∃ d t' L' η', K d t' L' ∧ RdV (s2.h.set b (.lp { pl2 with state := ls, pending := exCode e })) (Fz E.gd η' L'.m) η' d (.bool v) ∧ RS E η' ⟨t', L'⟩ ⟨s.t, s2.h.set b (.lp { pl2 with state := ls, pending := exCode e }), s.d⟩ := by
    rintro S' tb' e ls st' nx' m' v ⟨t1, hent, g1, g2, g3, g4, g5⟩ htb' hK
    obtain ⟨η3, r3⟩ := hent _ _ _ r2
    have Rt := R.turn (ls' := .busy) (pe' := .normal) (tb' := tb') (pl := pl) lkO_cons_eq hb hg (fun i d h => (htb' i d h).1)
    rw [stO_head, hnone] at Rt
    obtain ⟨k1, k2, _⟩ := Rt.leave (η' := η3) (S := S') hr hb r3 g1 g2 g3 g5 g4 rfl (fun i d h => (htb' i d h).2)
    have k1 : s2.h.get b = .lp { pl with state := .busy } := by
      rw [k1]; show (s.h.set b _).get b = _; rw [AHeap.get_set, if_pos rfl]
    refine ⟨_, k1, ?_⟩
    have Rf := k2.turn (ls' := ls) (pe' := e) (tb' := tb') (pl := { pl with state := .busy }) lkO_cons_eq (.inr ⟨rfl, rfl⟩) k1 (fun i d h => h)
    rw [stO_head] at Rf
    exact ⟨.bool v, st', _, _, hK, .bool v, Rf⟩
  cases e2 with
  | normal =>
    obtain ⟨st', nx', m', h1, h2⟩ := q2
    exact fin S tb .normal .ready st' nx' m' true h1 (fun i d h => ⟨h, (htb i d h).2⟩) h2
  | exit id =>
    obtain ⟨st', nx', m', h1, h2⟩ := q2
    exact fin _ [] (.exit id) .done st' nx' m' false h1 (fun i d h => by cases h) h2
  | goto id =>
    obtain ⟨st', nx', m', h1, h2⟩ := q2
    exact fin _ [] (.goto id) .done st' nx' m' false h1 (fun i d h => by cases h) h2
  | ret =>
    obtain ⟨st', nx', m', h1, h2⟩ := q2
    exact fin _ [] .ret .done st' nx' m' false h1 (fun i d h => by cases h) h2

end Go.Am

