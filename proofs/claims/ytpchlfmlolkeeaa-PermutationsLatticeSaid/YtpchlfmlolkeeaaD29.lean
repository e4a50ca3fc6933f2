/-
  The data layer: a round of a range over a function: the body runs while the function that was ranged over waits.
-/
import Derived.Test.YtpchlfmlolkeeaaD28
set_option linter.unusedSimpArgs false
set_option linter.unusedVariables false
namespace Go.Am
open Go Go.RowKit

variable {t : DT} {P : Program} {E : Env} {h : AHeap} {η : Nat → Nat → Prop} {L : Own}

theorem Base.setLp {pl pl' : PLoop} {b : Nat} (B : Base P h) (hg : h.get b = .lp pl) (ht : pl'.t = pl.t) : Base P (h.set b (.lp pl')) where
  gone := fun c hc => by
    have hn : b < h.n := Classical.byContradiction fun q => by have := B.gone b (by omega); rw [hg] at this; cases this
    have hc : h.n ≤ c := hc
    rw [AHeap.get_set, if_neg (by omega)]; exact B.gone c hc
  cells := fun c cs hc x hx => by
    by_cases hb : c = b
    · rw [hb, AHeap.get_set, if_pos rfl] at hc; cases hc
    · rw [AHeap.get_set, if_neg hb] at hc; exact B.cells c cs hc x hx
  loops := fun c l hc => by
    by_cases hb : c = b
    · rw [hb, AHeap.get_set, if_pos rfl] at hc; cases hc
    · rw [AHeap.get_set, if_neg hb] at hc; exact B.loops c l hc
  lps := fun c l hc i v hv => by
    by_cases hb : c = b
    · rw [hb, AHeap.get_set, if_pos rfl] at hc; cases hc; rw [ht] at hv; exact B.lps b pl hg i v hv
    · rw [AHeap.get_set, if_neg hb] at hc; exact B.lps c l hc i v hv
  glob := B.glob

/-- Names that stand for nothing in a round. -/
def noE (r : Nat) (m : List (Nat × Loc)) (j : Nat) : Bool := bif Nat.blt j r then false else (lkO m j).isNone

theorem noE_false {r : Nat} {m : List (Nat × Loc)} {j : Nat} (h : noE r m j = false) : j < r ∨ ∃ l, lkO m j = some l := by
  unfold noE at h
  cases hb : Nat.blt j r with
  | true => exact .inl (by simpa [Nat.blt_eq] using hb)
  | false =>
    rw [hb] at h
    simp only [cond_false] at h
    cases hl : lkO m j with
    | none => rw [hl] at h; cases h
    | some l => exact .inr ⟨l, rfl⟩

def rdE (E : Env) (η : Nat → Nat → Prop) (m : List (Nat × Loc)) (r b : Nat) (h : AHeap) : Env :=
  ⟨h, fun j c => η j c ∧ j < r, fun c => ∃ j l, lkO m j = some l ∧ η j c, fun c => E.gd c ∧ c ≠ b, E.sv, []⟩
def rdN (η : Nat → Nat → Prop) (m : List (Nat × Loc)) (r : Nat) : Nat → Nat → Prop := fun j c => η j c ∧ (j < r ∨ ∃ l, lkO m j = some l)

section
variable {nx r b : Nat} {m : List (Nat × Loc)} {l0 : Loc} {s : AS} {st : DT}

theorem own_ne (H : HS E η ⟨nx, r + 1, (r, l0) :: m⟩ h) (hr : lkO m r = none) (hb : η r b) {j c : Nat} {l : Loc} (hj : lkO m j = some l) (hη : η j c) : j ≠ r ∧ c ≠ b := by
  have hjr : j ≠ r := fun e => by subst e; rw [hr] at hj; cases hj
  exact ⟨hjr, fun e => hjr (by subst e; exact H.own.inj j r c hη hb)⟩

/-- A round begins. -/
theorem RS.enter {tin : DT} {ta : PT} (R : RS E η ⟨st, ⟨nx, r + 1, (r, l0) :: m⟩⟩ s) (hr : lkO m r = none) (hb : η r b)
    (hm : ∀ j l, lkO m j = some l → l.kill (noE r m) = l) (hta : ∀ i v, look? ta i = some v → i < FB)
    (hin : ∀ i d, lk tin i = some d → d.kill (noE r m) = d ∧ ((∃ v, look? ta i = some v ∧ RdV s.h (Fz E.gd η ((r, l0) :: m)) η d v) ∨ (FB ≤ i ∧ lk st i = some d))) :
    RS (rdE E η m r b s.h) (rdN η m r) ⟨tin, ⟨nx, r, m⟩⟩ ⟨ta, s.h, []⟩ := by
  have H := R.hs
  have hrm : ∀ {j l}, lkO m j = some l → lkO ((r, l0) :: m) j = some l := fun {j l} hj => by
    rw [lkO_cons_ne (fun e => by subst e; rw [hr] at hj; cases hj)]; exact hj
  have hle := H.le
  have gd1 : ∀ c, (rdE E η m r b s.h).gd c → s.h.n ≤ c ∨ (E.gd c ∧ c ≠ b) := fun c q => q
  have hgn : ∀ c, s.h.n ≤ c → E.gd c := fun c q => .inl (Nat.le_trans hle q)
  have S : Stays s.h s.h (Fz E.gd η ((r, l0) :: m)) (Fz (rdE E η m r b s.h).gd (rdN η m r) m) := fun c hc hF =>
    ⟨hc, ⟨.inr ⟨hF.1, fun e => hF.2 r l0 lkO_cons_eq (by rw [e]; exact hb)⟩, fun j l hj hη => hF.2 j l (hrm hj) hη.1⟩, rfl⟩
  have K : Keeps s.h s.h η (rdN η m r) (noE r m) := fun j c hp hη => ⟨⟨hη, noE_false hp⟩, rfl, rfl⟩
  have hown : OwnR s.h (rdE E η m r b s.h).gd (rdN η m r) ⟨nx, r, m⟩ := by
    refine ⟨fun j l hj => ?_, fun j c hη => H.own.lt j c hη.1, fun j c c' h1 h2 => H.own.fn j c c' h1.1 h2.1, fun i j c h1 h2 => H.own.inj i j c h1.1 h2.1⟩
    rcases H.own.loc j l (hrm hj) with ⟨c, h1, h2⟩ | ⟨⟨e, xs, rfl, h2⟩, h3, h4⟩
    · have := h2.kill S K
      rw [hm j l hj] at this
      exact .inl ⟨c, ⟨h1, .inr ⟨l, hj⟩⟩, this⟩
    · exact .inr ⟨⟨e, xs, rfl, h2⟩, h3, fun c hc => h4 c hc.1⟩
  have hrn : r < nx := (H.own.lt r b hb).1
  refine ⟨fun i d hd => ?_, ⟨hown, H.gone, Nat.le_refl _, fun _ _ _ => rfl, fun j l c hj hη => .inr ⟨⟨j, l, hj, hη.1⟩, ?_⟩, fun j c hj hE => ⟨⟨hE.1, .inl hE.2⟩, rfl, rfl⟩, fun j c hE => hE.2, ⟨Nat.le_of_lt hrn, fun j c hj hη => ⟨hη.1, hj⟩⟩, fun j c hη => ?_⟩, ⟨fun c hc => (by cases hc), List.nodup_nil⟩, hta, R.sv⟩
  · obtain ⟨hk, hd⟩ := hin i d hd
    rcases hd with ⟨v, h1, h2⟩ | ⟨hi, hd⟩
    · have := h2.kill S K
      rw [hk] at this
      exact ⟨v, by rw [look_append, h1]; rfl, this⟩
    · obtain ⟨v, h1, h2⟩ := R.slots i d hd
      have h3 := R.wait hi h1
      have := h2.kill S K
      rw [hk] at this
      refine ⟨v, ?_, this⟩
      rw [look_append]
      have hn : look? ta i = none := by
        cases hx : look? ta i with
        | none => rfl
        | some x => have := hta i x hx; omega
      rw [hn]; exact h3
  · rcases H.mine j l c (hrm hj) hη.1 with q | ⟨q1, q2⟩
    · exact .inr ⟨.inl q, (own_ne H hr hb hj hη.1).2⟩
    · by_cases hjr : j < r
      · exact .inl hjr
      · right
        rcases q2 with q | q
        · have q : j < r + 1 := q
          have := (own_ne H hr hb hj hη.1).1
          omega
        · exact ⟨.inr q, (own_ne H hr hb hj hη.1).2⟩
  · rcases hη.2 with q | ⟨l, q⟩
    · exact .inr (.inr ⟨hη.1, q⟩)
    · exact .inr (.inl ⟨j, l, q, hη.1⟩)

/-- What names only boxes of a set tells as much as long as these have their blocks. -/
inductive BD (S : Nat → Prop) : DV → Prop where
  | bptr {j : Nat} (o : Nat) : S j → BD S (.bptr j o)
  | clo {f : Nat} {xs us : List DV} : (∀ d ∈ xs, BD S d) → (∀ d ∈ us, BD S d) → BD S (.clo f xs us)
  | agg {l : List DV} : (∀ d ∈ l, BD S d) → BD S (.agg l)
  | tup {l : List DV} : (∀ d ∈ l, BD S d) → BD S (.tup l)
  | free {d : DV} : d.kill allN = d → BD S d

theorem RdV.bd {h' : AHeap} {F F' : Nat → Prop} {η' : Nat → Nat → Prop} {S : Nat → Prop} (ST : Stays h h' F F') (K : ∀ j c, S j → η j c → η' j c) {d : DV} (hd : BD S d) : ∀ {v : Value}, RdV h F η d v → RdV h' F' η' d v := by
  induction hd with
  | bptr o hS => intro v H; cases H with | bptr _ h0 => exact .bptr o (K _ _ hS h0)
  | clo _ _ ih1 ih2 =>
    intro v H
    cases H with
    | clo a1 a2 a3 a4 =>
      exact .clo a1 (fun i d x hd hx => ih1 d (List.mem_of_getElem? hd) (a2 i d x hd hx)) a3 (fun i d x hd hx => ih2 d (List.mem_of_getElem? hd) (a4 i d x hd hx))
  | agg _ ih =>
    intro v H
    cases H with
    | agg a1 a2 => exact .agg a1 (fun i d x hd hx => ih d (List.mem_of_getElem? hd) (a2 i d x hd hx))
  | tup _ ih =>
    intro v H
    cases H with
    | tup a1 a2 => exact .tup a1 (fun i d x hd hx => ih d (List.mem_of_getElem? hd) (a2 i d x hd hx))
  | free hk =>
    intro v H
    have := H.kill (p := allN) ST (η' := η') (fun j b hp => by cases hp)
    rwa [hk] at this

def nisN (r : Nat) : Nat → Bool := fun j => !(Nat.beq j r)

/-- A round has ended. -/
theorem RS.leave {nx' : Nat} {m' : List (Nat × Loc)} {η' : Nat → Nat → Prop} {t1 st' : DT} {s1 : AS} {S : Nat → Prop} (R : RS E η ⟨st, ⟨nx, r + 1, (r, l0) :: m⟩⟩ s) (hr : lkO m r = none) (hb : η r b)
    (R1 : RS (rdE E η m r b s.h) η' ⟨t1, ⟨nx', r, m'⟩⟩ s1) (hr' : lkO m' r = none) (hrn : r < nx') (hm' : ∀ j l, lkO m' j = some l → l.kill (isN r) = l)
    (hst : ∀ i d, lk st' i = some d → (lk st i = some d ∧ d.kill (nisN r) = d) ∨ (FB ≤ i ∧ lk t1 i = some d ∧ d.kill (isN r) = d))
    (hS : ∀ j, S j → ∃ i o, FB ≤ i ∧ lk st i = some (.bptr j o) ∧ lk t1 i = some (.bptr j o) ∧ j ≠ r) {ls : LoopState} {pe : AEx} {n : Nat} {ps : List Nat} {ca cb : Code} {tb : DT} (hl0 : l0 = .lp ls pe n ps ca cb tb) (hbd : ∀ i d, lk tb i = some d → BD S d) :
    s1.h.get b = s.h.get b ∧ RS E (setN η' r b) ⟨st', ⟨nx', r + 1, (r, l0) :: m'⟩⟩ ⟨s.t, s1.h, s.d⟩ ∧ ∀ j c, S j → η j c → setN η' r b j c := by
  have H := R.hs
  have H1 := R1.hs
  have hrm : ∀ {j l}, lkO m j = some l → lkO ((r, l0) :: m) j = some l := fun {j l} hj => by
    rw [lkO_cons_ne (fun e => by subst e; rw [hr] at hj; cases hj)]; exact hj
  have hle : E.h.n ≤ s.h.n := H.le
  have hle1 : s.h.n ≤ s1.h.n := H1.le
  have hbn : b < s.h.n := (H.own.lt r b hb).2
  have hO : ∀ c, (rdE E η m r b s.h).O c → c < s.h.n ∧ c ≠ b := fun c ⟨j, l, q1, q2⟩ => ⟨(H.own.lt j c q2).2, (own_ne H hr hb q1 q2).2⟩
  have hgb : s1.h.get b = s.h.get b := H1.keep b hbn fun q => (hO b q).2 rfl
  have hnb : ∀ j c, η' j c → j ≠ r → c ≠ b := fun j c hη hj e => by
    rcases H1.nm j c hη with q | q | q
    · have q : s.h.n ≤ c := q; omega
    · exact (hO c q).2 e
    · have q : η j c ∧ j < r := q
      subst e
      have := H.own.inj j r c q.1 hb
      omega
  have hlk' : ∀ {j l}, lkO m' j = some l → j ≠ r := fun {j l} hj e => by subst e; rw [hr'] at hj; cases hj
  have gd1 : ∀ c, (rdE E η m r b s.h).gd c → E.gd c ∧ c ≠ b := fun c q => by
    rcases q with q | q
    · have q : s.h.n ≤ c := q
      exact ⟨.inl (by omega), by omega⟩
    · exact q
  -- what was frozen while the function ran stays so
  have S0 : Stays s.h s1.h (Fz E.gd η ((r, l0) :: m)) (Fz E.gd (setN η' r b) ((r, l0) :: m')) := by
    intro c hc hF
    have hcb : c ≠ b := fun e => hF.2 r l0 lkO_cons_eq (by rw [e]; exact hb)
    have hno : ¬ (rdE E η m r b s.h).O c := fun ⟨j, l, q1, q2⟩ => hF.2 j l (hrm q1) q2
    refine ⟨by omega, ⟨hF.1, fun j l hj hη => ?_⟩, H1.keep c hc hno⟩
    rcases hη with ⟨hjr, hη⟩ | ⟨_, e⟩
    · rw [lkO_cons_ne hjr] at hj
      rcases H1.mine j l c hj hη with q | q
      · have q : s.h.n ≤ c := q; omega
      · exact hno q.1
    · exact hcb e
  -- what was frozen in the round
  have S1 : Stays s1.h s1.h (Fz (rdE E η m r b s.h).gd η' m') (Fz E.gd (setN η' r b) ((r, l0) :: m')) := by
    intro c hc hF
    have hg := gd1 c hF.1
    refine ⟨hc, ⟨hg.1, fun j l hj hη => ?_⟩, rfl⟩
    rcases hη with ⟨hjr, hη⟩ | ⟨_, e⟩
    · rw [lkO_cons_ne hjr] at hj; exact hF.2 j l hj hη
    · exact hg.2 e
  have K1 : Keeps s1.h s1.h η' (setN η' r b) (isN r) := fun j c hp hη => ⟨.inl ⟨isN_ne hp, hη⟩, rfl, rfl⟩
  have K0 : Keeps s.h s1.h η (setN η' r b) (nisN r) := fun j c hp hη => by
    have hj : j = r := by
      unfold nisN at hp
      cases hq : Nat.beq j r with
      | true => exact Nat.eq_of_beq_eq_true hq
      | false => rw [hq] at hp; cases hp
    subst hj
    have := H.own.fn j c b hη hb
    subst this
    refine ⟨.inr ⟨rfl, rfl⟩, ?_, ?_⟩
    · unfold blen; rw [hgb]
    · unfold eszOf; rw [hgb]
  have KS : ∀ j c, S j → η j c → setN η' r b j c := fun j c hj hη => by
    obtain ⟨i, o, hi, h1, h2, hjr⟩ := hS j hj
    obtain ⟨v, a1, a2⟩ := R.slots i _ h1
    obtain ⟨v', b1, b2⟩ := R1.slots i _ h2
    have e1 := R.wait hi a1
    have e2 : look? E.sv i = some v' := R1.wait hi b1
    rw [e1] at e2
    cases e2
    cases a2 with
    | bptr _ a0 =>
    cases b2 with
    | bptr _ b0 =>
    have := H.own.fn j c _ hη a0
    subst this
    exact .inl ⟨hjr, b0⟩
  refine ⟨hgb, ⟨fun i d hd => ?_, ⟨⟨fun j l hj => ?_, fun j c hη => ?_, fun j c c' h1 h2 => ?_, fun i j c h1 h2 => ?_⟩, H1.gone, Nat.le_trans hle hle1, fun c hc hno => ?_, fun j l c hj hη => ?_, fun j c hj hE => ?_, H.rs, ⟨hrn, fun j c hj hη => ?_⟩, fun j c hη => ?_⟩, ⟨fun c hc => ?_, R.d.nd⟩, R.lt, R.sv⟩, KS⟩
  · rcases hst i d hd with ⟨h1, h2⟩ | ⟨hi, h1, h2⟩
    · obtain ⟨v, a1, a2⟩ := R.slots i d h1
      have := a2.kill S0 K0
      rw [h2] at this
      exact ⟨v, a1, this⟩
    · obtain ⟨v, a1, a2⟩ := R1.slots i d h1
      have := a2.kill S1 K1
      rw [h2] at this
      refine ⟨v, ?_, this⟩
      have a3 : look? E.sv i = some v := R1.wait hi a1
      rw [look_append]
      have hn : look? s.t i = none := by
        cases hx : look? s.t i with
        | none => rfl
        | some x => have := R.lt i x hx; omega
      rw [hn]; exact a3
  · by_cases hjr : j = r
    · subst hjr
      rw [lkO_cons_eq] at hj
      cases hj
      refine .inl ⟨b, .inr ⟨rfl, rfl⟩, ?_⟩
      show LocR s1.h _ _ (s1.h.get b) l0
      rw [hgb]
      rcases H.own.loc j l0 lkO_cons_eq with ⟨c, h1, h2⟩ | ⟨⟨e, xs, q, _⟩, _⟩
      · have := H.own.fn j c b h1 hb
        subst this
        subst hl0
        generalize s.h.get c = o at h2
        cases h2 with
        | lp hta hv => exact .lp hta fun i d hd => let ⟨v, q1, q2⟩ := hv i d hd; ⟨v, q1, q2.bd S0 KS (hbd i d hd)⟩
      · rw [hl0] at q; cases q
    · rw [lkO_cons_ne hjr] at hj
      rcases H1.own.loc j l hj with ⟨c, h1, h2⟩ | ⟨h1, h2, h3⟩
      · have := h2.kill S1 K1
        rw [hm' j l hj] at this
        exact .inl ⟨c, .inl ⟨hjr, h1⟩, this⟩
      · refine .inr ⟨h1, h2, fun c hc => ?_⟩
        rcases hc with ⟨_, hc⟩ | ⟨hc, _⟩
        · exact h3 c hc
        · exact hjr hc
  · rcases hη with ⟨_, hη⟩ | ⟨rfl, rfl⟩
    · exact H1.own.lt j c hη
    · exact ⟨hrn, by show c < s1.h.n; omega⟩
  · rcases h1 with ⟨g1, h1⟩ | ⟨rfl, rfl⟩ <;> rcases h2 with ⟨g2, h2⟩ | ⟨e, rfl⟩
    · exact H1.own.fn j c c' h1 h2
    · exact absurd e g1
    · exact absurd rfl g2
    · rfl
  · rcases h1 with ⟨g1, h1⟩ | ⟨rfl, rfl⟩ <;> rcases h2 with ⟨g2, h2⟩ | ⟨e, e2⟩
    · exact H1.own.inj i j c h1 h2
    · exact absurd e2 (hnb i c h1 g1)
    · exact absurd rfl (hnb j c h2 g2)
    · exact e.symm
  · show s1.h.get c = E.h.get c
    rw [H1.keep c (by show c < s.h.n; omega) (fun ⟨j, l, q1, q2⟩ => by
      rcases H.mine j l c (hrm q1) q2 with q | q
      · omega
      · exact hno q.1)]
    exact H.keep c hc hno
  · by_cases hjr : j = r
    · subst hjr
      rcases hη with ⟨q, _⟩ | ⟨_, rfl⟩
      · exact absurd rfl q
      · rcases H.mine j l0 c lkO_cons_eq hb with q | q
        · exact .inl q
        · exact .inr q
    · rcases hη with ⟨_, hη⟩ | ⟨q, _⟩
      · rw [lkO_cons_ne hjr] at hj
        rcases H1.mine j l c hj hη with q | ⟨⟨j0, l1, q1, q2⟩, q3⟩
        · exact .inl (Nat.le_trans hle q)
        · rcases H.mine j0 l1 c (hrm q1) q2 with q | q
          · exact .inl q
          · rcases q3 with q3 | q3
            · exact .inr ⟨q.1, .inl (by have q3 : j < r := q3; show j < r + 1; omega)⟩
            · rcases q3.1 with q4 | q4
              · exact .inl q4
              · exact .inr ⟨q.1, .inr q4⟩
      · exact absurd q hjr
  · have hj : j < r + 1 := hj
    obtain ⟨g1, g2, g3⟩ := H.fix j c hj hE
    by_cases hjr : j = r
    · subst hjr
      have := H.own.fn j c b g1 hb
      subst this
      refine ⟨.inr ⟨rfl, rfl⟩, ?_, ?_⟩
      · rw [← g2]; unfold blen; rw [hgb]
      · rw [← g3]; unfold eszOf; rw [hgb]
    · obtain ⟨k1, k2, k3⟩ := H1.fix j c (by show j < r; omega) ⟨g1, by omega⟩
      exact ⟨.inl ⟨hjr, k1⟩, k2.trans g2, k3.trans g3⟩
  · have hj : j < r + 1 := hj
    rcases hη with ⟨hjr, hη⟩ | ⟨rfl, rfl⟩
    · have q : η j c ∧ j < r := H1.bk.2 j c (by show j < r; omega) hη
      exact H.bk.2 j c (by show j < r + 1; omega) q.1
    · exact H.bk.2 j c (by show j < j + 1; omega) hb
  · rcases hη with ⟨hjr, hη⟩ | ⟨rfl, rfl⟩
    · rcases H1.nm j c hη with q | ⟨j0, l1, q1, q2⟩ | q
      · exact .inl (Nat.le_trans hle q)
      · rcases H.mine j0 l1 c (hrm q1) q2 with q | q
        · exact .inl q
        · exact .inr (.inl q.1)
      · exact H.nm j c q.1
    · exact H.nm j c hb
  · obtain ⟨g0, g1, g2, g3⟩ := R.d.get c hc
    obtain ⟨a1, a2, a3⟩ := S0 c g1 g2
    exact ⟨g0, a1, a2, a3.trans g3⟩

/-- The mark is turned while a round waits between its two parts. -/
theorem RS.poke {E1 : Env} {η1 : Nat → Nat → Prop} {ds : DS} {s1 : AS} {b : Nat} {pl' : PLoop} (hb : b < E1.h.n) (hO : ¬ E1.O b) (hG : ¬ E1.gd b) (hη : ∀ j, ¬ η1 j b) (hd : b ∉ s1.d ++ E1.dv) (R : RS E1 η1 ds s1) :
    RS ⟨E1.h.set b (.lp pl'), E1.η, E1.O, E1.G, E1.sv, E1.dv⟩ η1 ds ⟨s1.t, s1.h.set b (.lp pl'), s1.d⟩ := by
  have H := R.hs
  have hF : ∀ c, Fz E1.gd η1 ds.L.m c → c ≠ b := fun c hc e => hG (by subst e; exact hc.1)
  have S : Stays s1.h (s1.h.set b (.lp pl')) (Fz E1.gd η1 ds.L.m) (Fz E1.gd η1 ds.L.m) := fun c hc hF' => ⟨hc, hF', by rw [AHeap.get_set, if_neg (hF c hF')]⟩
  have hne : ∀ {j c}, η1 j c → c ≠ b := fun {j c} q e => hη j (by subst e; exact q)
  have K : Keeps s1.h (s1.h.set b (.lp pl')) η1 η1 fun _ => false := fun j c _ q => by
    refine ⟨q, ?_, ?_⟩
    · unfold blen; rw [AHeap.get_set, if_neg (hne q)]
    · unfold eszOf; rw [AHeap.get_set, if_neg (hne q)]
  refine ⟨fun i d hi => ?_, ⟨⟨fun j l hj => ?_, H.own.lt, H.own.fn, H.own.inj⟩, fun c hc => ?_, H.le, fun c hc hno => ?_, H.mine, fun j c hj hE => ?_, H.rs, H.bk, H.nm⟩, ⟨fun c hc => ?_, R.d.nd⟩, R.lt, R.sv⟩
  · obtain ⟨v, h1, h2⟩ := R.slots i d hi
    exact ⟨v, h1, h2.mono S K⟩
  · rcases H.own.loc j l hj with ⟨c, h1, h2⟩ | h1
    · refine .inl ⟨c, h1, ?_⟩
      show LocR _ _ _ ((s1.h.set b (.lp pl')).get c) l
      rw [AHeap.get_set, if_neg (hne h1)]
      exact h2.mono S K
    · exact .inr h1
  · have hc : s1.h.n ≤ c := hc
    have := H.le
    show (s1.h.set b (.lp pl')).get c = _
    rw [AHeap.get_set, if_neg (by omega)]; exact H.gone c hc
  · show (s1.h.set b (.lp pl')).get c = (E1.h.set b (.lp pl')).get c
    by_cases hcb : c = b
    · rw [hcb, AHeap.get_set, AHeap.get_set, if_pos rfl, if_pos rfl]
    · rw [AHeap.get_set, AHeap.get_set, if_neg hcb, if_neg hcb]; exact H.keep c hc hno
  · obtain ⟨g1, g2, g3⟩ := H.fix j c hj hE
    have hcb := hne g1
    refine ⟨g1, ?_, ?_⟩
    · show blen (s1.h.set b (.lp pl')) c = blen (E1.h.set b (.lp pl')) c
      unfold blen at g2 ⊢; rw [AHeap.get_set, AHeap.get_set, if_neg hcb, if_neg hcb]; exact g2
    · show eszOf (s1.h.set b (.lp pl')) c = eszOf (E1.h.set b (.lp pl')) c
      unfold eszOf at g3 ⊢; rw [AHeap.get_set, AHeap.get_set, if_neg hcb, if_neg hcb]; exact g3
  · obtain ⟨g0, g1, g2, g3⟩ := R.d.get c hc
    refine ⟨g0, g1, g2, ?_⟩
    show (s1.h.set b (.lp pl')).get c = _
    rw [AHeap.get_set, if_neg (hF c g2)]; exact g3
end

end Go.Am

