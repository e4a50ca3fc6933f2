/-
  The data layer: ranges over functions: the mark of a loop among one's own blocks.
-/
import Derived.Test.YtpchlfmlolkeeaaD27
set_option linter.unusedSimpArgs false
set_option linter.unusedVariables false
namespace Go.Am
open Go Go.RowKit

variable {t : DT} {P : Program} {E : Env} {h : AHeap} {η : Nat → Nat → Prop} {L : Own}

/-- A name is given anew. -/
def setN (η : Nat → Nat → Prop) (r b : Nat) : Nat → Nat → Prop := fun j c => (j ≠ r ∧ η j c) ∨ (j = r ∧ c = b)
def isN (r : Nat) : Nat → Bool := fun j => Nat.beq j r
theorem isN_ne {r j : Nat} (h : isN r j = false) : j ≠ r := fun e => by subst e; simp [isN] at h

def Env.mark (E : Env) (b : Nat) (r : Nat) : Env := ⟨E.h, setN E.η r b, E.O, E.G, E.sv, E.dv⟩

theorem HS.mvMark (H : HS E η L h) (o : AObj) {r : Nat} (l : Loc) :
    Mv E.gd η L h (setN η r h.n) ⟨L.nx, r + 1, (r, l) :: L.m⟩ (h.push o) (isN r) := by
  refine ⟨fun b hb hF => ⟨by simp; omega, ⟨hF.1, fun j x hj hη => ?_⟩, by rw [AHeap.get_push, if_neg (by omega)]⟩, fun j b hp hη => ⟨.inl ⟨isN_ne hp, hη⟩, ?_, ?_⟩⟩
  · rcases hη with ⟨hjn, hη⟩ | ⟨_, rfl⟩
    · rw [lkO_cons_ne hjn] at hj
      exact hF.2 j x hj hη
    · omega
  · have := (H.own.lt j b hη).2
    unfold blen; rw [AHeap.get_push, if_neg (by omega)]
  · have := (H.own.lt j b hη).2
    unfold eszOf; rw [AHeap.get_push, if_neg (by omega)]

/-- A loop's mark is laid: the name is one that is kept for marks. -/
theorem HS.mark (H : HS E η L h) (hB : ∀ b, E.h.n ≤ b → E.h.get b = .dead) {pl : PLoop} {r : Nat} {l : Loc} (hfx : L.fx = r) (hrn : r < L.nx) (hr : lkO L.m r = none) (hm : ∀ j x, lkO L.m j = some x → x.kill (isN r) = x)
    (hl : LocR (h.push (.lp pl)) (Fz E.gd (setN η r h.n) ((r, l) :: L.m)) (setN η r h.n) (.lp pl) l) :
    HS (E.mark h.n r) (setN η r h.n) ⟨L.nx, r + 1, (r, l) :: L.m⟩ (h.push (.lp pl)) := by
  have M := H.mvMark (.lp pl) (r := r) l
  refine ⟨⟨fun j x hj => ?_, fun j b hη => ?_, fun j b c h1 h2 => ?_, fun i j b h1 h2 => ?_⟩, fun b hb => ?_, ?_, fun b hb hO => ?_, fun j x b hj hη => ?_, fun j b hj hη => ?_, fun j b hη => ?_, ⟨hrn, fun j b hj hη => ?_⟩, fun j b hη => ?_⟩
  · by_cases hjn : j = r
    · subst hjn
      rw [lkO_cons_eq] at hj
      cases hj
      exact .inl ⟨h.n, .inr ⟨rfl, rfl⟩, by rw [AHeap.get_push, if_pos rfl]; exact hl⟩
    · rw [lkO_cons_ne hjn] at hj
      rcases H.own.loc j x hj with ⟨b, h1, h2⟩ | ⟨h1, h2, h3⟩
      · have := (H.own.lt j b h1).2
        have h4 := h2.kill M.st M.kp
        rw [hm j x hj] at h4
        exact .inl ⟨b, .inl ⟨hjn, h1⟩, by rw [AHeap.get_push, if_neg (by omega)]; exact h4⟩
      · refine .inr ⟨h1, h2, fun b hb => ?_⟩
        rcases hb with ⟨_, hb⟩ | ⟨hb, _⟩
        · exact h3 b hb
        · exact hjn hb
  · rcases hη with ⟨_, hη⟩ | ⟨rfl, rfl⟩
    · have := H.own.lt j b hη; simp; omega
    · simp; exact hrn
  · rcases h1 with ⟨g1, h1⟩ | ⟨rfl, rfl⟩ <;> rcases h2 with ⟨g2, h2⟩ | ⟨e, rfl⟩
    · exact H.own.fn j b c h1 h2
    · exact absurd e g1
    · exact absurd rfl g2
    · rfl
  · rcases h1 with ⟨g1, h1⟩ | ⟨rfl, rfl⟩ <;> rcases h2 with ⟨g2, h2⟩ | ⟨e, e2⟩
    · exact H.own.inj i j b h1 h2
    · have := H.own.lt i b h1; omega
    · have := H.own.lt _ _ h2; omega
    · exact e.symm
  · rw [AHeap.get_push, if_neg (by simp at hb; omega)]; exact H.gone b (by simp at hb; omega)
  · show E.h.n ≤ _; simp; have := H.le; omega
  · have hb : b < E.h.n := hb
    rw [AHeap.get_push, if_neg (by have := H.le; omega)]; exact H.keep b hb hO
  · rcases hη with ⟨hjn, hη⟩ | ⟨_, rfl⟩
    · rw [lkO_cons_ne hjn] at hj
      rcases H.mine j x b hj hη with q | ⟨q1, q2⟩
      · exact .inl q
      · exact .inr ⟨q1, q2.imp (fun q => by show j < r + 1; omega) id⟩
    · exact .inl H.le
  · have hj : j < r + 1 := hj
    rcases hη with ⟨hjn, hη⟩ | ⟨rfl, rfl⟩
    · obtain ⟨g1, g2, g3⟩ := H.fix j b (by omega) hη
      obtain ⟨k1, k2, k3⟩ := M.kp j b (Bool.eq_false_iff.2 fun e => hjn (Nat.eq_of_beq_eq_true e)) g1
      exact ⟨k1, k2.trans g2, k3.trans g3⟩
    · have hd : (E.mark h.n j).h.get h.n = .dead := hB h.n H.le
      refine ⟨.inr ⟨rfl, rfl⟩, ?_, ?_⟩
      · unfold blen; rw [AHeap.get_push, if_pos rfl, hd]; rfl
      · unfold eszOf; rw [AHeap.get_push, if_pos rfl, hd]
  · rcases hη with ⟨hjn, hη⟩ | ⟨rfl, rfl⟩
    · have := H.rs j b hη; show j < r + 1; omega
    · exact Nat.lt_succ_self _
  · rcases hη with ⟨hjn, hη⟩ | ⟨rfl, rfl⟩
    · have hj : j < r + 1 := hj
      exact .inl ⟨hjn, H.bk.2 j b (by omega) hη⟩
    · exact .inr ⟨rfl, rfl⟩
  · rcases hη with ⟨hjn, hη⟩ | ⟨rfl, rfl⟩
    · rcases H.nm j b hη with q | q | q
      · exact .inl q
      · exact .inr (.inl q)
      · exact .inr (.inr (.inl ⟨hjn, q⟩))
    · exact .inl H.le

theorem gd_mark {b r : Nat} : (E.mark b r).gd = E.gd := rfl

/-- The state as a range over a function begins. -/
theorem RS.mark {s : AS} (B : Base P E.h) (R : RS E η ⟨t, L⟩ s) {r n : Nat} {ps : List Nat} {ca cb : Code} {tb : DT} (hfx : L.fx = r) (hrn : r < L.nx) (hr : lkO L.m r = none) (hm : ∀ j x, lkO L.m j = some x → x.kill (isN r) = x)
    (ht : ∀ i d, lk t i = some d → d.kill (isN r) = d) (htb : ∀ i d, lk tb i = some d → lk t i = some d ∧ i < FB) :
    RS ⟨E.h, setN E.η r (s.h.n + 1), E.O, E.G, E.sv, s.h.n :: E.dv⟩ (setN η r (s.h.n + 1)) ⟨t, ⟨L.nx, r + 1, (r, .lp .ready .normal n ps ca cb tb) :: L.m⟩⟩
      ⟨s.t, (s.h.push (.deferred false)).push (.lp ⟨.ready, none, n, s.t, ps, ca, cb⟩), s.d⟩ := by
  obtain ⟨H1, M1⟩ := R.hs.push (.deferred false)
  have hn : (s.h.push (.deferred false)).n = s.h.n + 1 := by simp
  have M2 := H1.mvMark (.lp ⟨.ready, none, n, s.t, ps, ca, cb⟩) (r := r) (.lp .ready .normal n ps ca cb tb)
  rw [hn] at M2
  have hslot : ∀ i d, lk t i = some d → ∃ v, look? (s.t ++ E.sv) i = some v ∧ RdV ((s.h.push (.deferred false)).push (.lp ⟨.ready, none, n, s.t, ps, ca, cb⟩)) (Fz E.gd (setN η r (s.h.n + 1)) ((r, .lp .ready .normal n ps ca cb tb) :: L.m)) (setN η r (s.h.n + 1)) d v := by
    intro i d hi
    obtain ⟨v, h1, h2⟩ := R.slots i d hi
    have h3 := (h2.mono M1.st M1.kp).kill M2.st M2.kp
    rw [ht i d hi] at h3
    exact ⟨v, h1, h3⟩
  have H2 := H1.mark B.gone (pl := ⟨.ready, none, n, s.t, ps, ca, cb⟩) (l := .lp .ready .normal n ps ca cb tb) hfx hrn hr hm (by
    rw [hn]
    refine LocR.lp (pe := .normal) R.lt fun i d hi => ?_
    obtain ⟨g1, g2⟩ := htb i d hi
    obtain ⟨v, h1, h2⟩ := hslot i d g1
    exact ⟨v, R.own g2 h1, h2⟩)
  rw [hn] at H2
  refine ⟨hslot, ⟨H2.own, H2.gone, H2.le, H2.keep, H2.mine, H2.fix, H2.rs, H2.bk, H2.nm⟩, ⟨fun b hb => ?_, ?_⟩, R.lt, R.sv⟩
  · have hp := List.perm_middle.mem_iff.1 hb
    rcases List.mem_cons.1 hp with rfl | hb'
    · refine ⟨R.hs.le, by simp; omega, ⟨.inl R.hs.le, fun j x hj hη => ?_⟩, ?_⟩
      · rcases hη with ⟨_, hη⟩ | ⟨_, e⟩
        · have := (R.hs.own.lt j _ hη).2; omega
        · omega
      · rw [AHeap.get_push, if_neg (by simp), AHeap.get_push, if_pos rfl]
    · obtain ⟨g0, g1, g2, g3⟩ := R.d.get b hb'
      obtain ⟨a1, a2, a3⟩ := M1.st b g1 g2
      obtain ⟨b1, b2, b3⟩ := M2.st b a1 a2
      exact ⟨g0, b1, b2, b3.trans (a3.trans g3)⟩
  · refine List.perm_middle.nodup_iff.2 (List.nodup_cons.2 ⟨fun hb => ?_, R.d.nd⟩)
    have := (R.d.get _ hb).2.1
    omega

def unN (η : Nat → Nat → Prop) (r : Nat) : Nat → Nat → Prop := fun j c => j ≠ r ∧ η j c

/-- The state as a range over a function has ended. -/
theorem RS.unmark {st : PT} {sd : List Nat} {b0 b r n : Nat} {ps : List Nat} {ca cb : Code} {tb : DT} {ls : LoopState} {pe : AEx} (hrs : ∀ j c, E.η j c → j < r)
    (R : RS ⟨E.h, setN E.η r b, E.O, E.G, E.sv, b0 :: E.dv⟩ η ⟨t, L⟩ ⟨st, h, sd⟩) (hfx : L.fx = r + 1) (hl : lkO L.m r = some (.lp ls pe n ps ca cb tb)) :
    ∃ pl, h.get b = .lp pl ∧ pl.state = ls ∧ pl.pending = exCode pe ∧
      RS E (unN η r) ⟨t.map fun x => (x.1, DV.kill (isN r) x.2), ⟨L.nx, r, killO (isN r) (rmO r L.m)⟩⟩ ⟨st, h.set b (.lp { pl with state := .exhausted }), b0 :: sd⟩ := by
  have H := R.hs
  obtain ⟨f1, f2, f3⟩ := H.fix r b (by rw [hfx]; omega) (.inr ⟨rfl, rfl⟩)
  have hg : ∃ pl, h.get b = .lp pl ∧ pl.state = ls ∧ pl.pending = exCode pe := by
    rcases H.own.loc r _ hl with ⟨c, h1, h2⟩ | ⟨⟨e, xs, q, _⟩, _⟩
    · have := H.own.fn r b c f1 h1
      subst this
      generalize h.get b = o at h2
      cases h2 with
      | lp hta hv => exact ⟨_, rfl, rfl, rfl⟩
    · cases q
  obtain ⟨pl, g1, g2, g3⟩ := hg
  refine ⟨pl, g1, g2, g3, ?_⟩
  have hne : ∀ j c, j ≠ r → η j c → c ≠ b := fun j c hj h1 e => hj (by subst e; exact H.own.inj j r c h1 f1)
  have hlk : ∀ j x, lkO (killO (isN r) (rmO r L.m)) j = some x → j ≠ r ∧ ∃ x0, lkO L.m j = some x0 ∧ x0.kill (isN r) = x := by
    intro j x hj
    rw [lkO_killO, Option.map_eq_some_iff] at hj
    obtain ⟨x0, h1, h2⟩ := hj
    by_cases hjr : j = r
    · subst hjr; rw [lkO_rmO_eq] at h1; cases h1
    · rw [lkO_rmO_ne hjr] at h1; exact ⟨hjr, x0, h1, h2⟩
  have M : Mv E.gd η L h (unN η r) ⟨L.nx, r, killO (isN r) (rmO r L.m)⟩ (h.set b (.lp { pl with state := .exhausted })) (isN r) := by
    refine ⟨fun c hc hF => ⟨hc, ⟨hF.1, fun j x hj hη => ?_⟩, ?_⟩, fun j c hp hη => ⟨⟨isN_ne hp, hη⟩, ?_, ?_⟩⟩
    · obtain ⟨hjr, x0, h1, _⟩ := hlk j x hj
      exact hF.2 j x0 h1 hη.2
    · rw [AHeap.get_set, if_neg (fun e => hF.2 r _ hl (by rw [e]; exact f1))]
    · unfold blen; rw [AHeap.get_set, if_neg (hne j c (isN_ne hp) hη)]
    · unfold eszOf; rw [AHeap.get_set, if_neg (hne j c (isN_ne hp) hη)]
  have hbn : b < h.n := (H.own.lt r b f1).2
  have hfx' : L.fx = r + 1 := hfx
  have hbE : ∀ c, c < E.h.n → ¬ E.O c → c ≠ b := fun c h1 h2 e => by
    subst e
    rcases H.mine r _ c hl f1 with q | ⟨q, _⟩
    · have q : E.h.n ≤ c := q; omega
    · exact h2 q
  refine ⟨fun i d hi => ?_, ⟨⟨fun j x hj => ?_, fun j c hη => ?_, fun j c c' k1 k2 => H.own.fn j c c' k1.2 k2.2, fun i j c k1 k2 => H.own.inj i j c k1.2 k2.2⟩, fun c hc => ?_, H.le, fun c hc hO => ?_, fun j x c hj hη => ?_, fun j c hj hE => ?_, fun j c hE => hrs j c hE, ⟨by have q : L.fx ≤ L.nx := H.bk.1; show r ≤ L.nx; omega, fun j c hj hη => ?_⟩, fun j c hη => ?_⟩, ⟨fun c hc => ?_, ?_⟩, R.lt, R.sv⟩
  · rw [lk_map, Option.map_eq_some_iff] at hi
    obtain ⟨d0, k1, rfl⟩ := hi
    obtain ⟨v, h1, h2⟩ := R.slots i d0 k1
    exact ⟨v, h1, h2.kill M.st M.kp⟩
  · obtain ⟨hjr, x0, k1, rfl⟩ := hlk j x hj
    rcases H.own.loc j x0 k1 with ⟨c, k2, k3⟩ | ⟨⟨e, xs, rfl, k2⟩, k3, k4⟩
    · refine .inl ⟨c, ⟨hjr, k2⟩, ?_⟩
      rw [AHeap.get_set, if_neg (hne j c hjr k2)]
      exact k3.kill M.st M.kp
    · exact .inr ⟨⟨e, xs, rfl, k2⟩, k3, fun c hc => k4 c hc.2⟩
  · have := H.own.lt j c hη.2; exact ⟨this.1, this.2⟩
  · rw [AHeap.get_set, if_neg (by have hc : h.n ≤ c := hc; omega)]; exact H.gone c hc
  · rw [AHeap.get_set, if_neg (hbE c hc hO)]; exact H.keep c hc hO
  · obtain ⟨hjr, x0, k1, rfl⟩ := hlk j x hj
    rcases H.mine j x0 c k1 hη.2 with q | ⟨q1, q2⟩
    · exact .inl q
    · refine .inr ⟨q1, q2.imp (fun q => ?_) id⟩
      have q : j < L.fx := q
      show j < r; omega
  · have hj : j < r := hj
    have hj' : j < L.fx := by omega
    obtain ⟨k1, k2, k3⟩ := H.fix j c hj' (.inl ⟨by omega, hE⟩)
    obtain ⟨m1, m2, m3⟩ := M.kp j c (Bool.eq_false_iff.2 fun e => by have := Nat.eq_of_beq_eq_true e; omega) k1
    exact ⟨m1, m2.trans k2, m3.trans k3⟩
  · have hj : j < r := hj
    rcases H.bk.2 j c (by show j < L.fx; omega) hη.2 with q | q
    · exact q.2
    · omega
  · rcases H.nm j c hη.2 with q | q | q
    · exact .inl q
    · exact .inr (.inl q)
    · rcases q with q | q
      · exact .inr (.inr q.2)
      · exact absurd q.1 hη.1
  · have hc' : c ∈ sd ++ b0 :: E.dv := List.perm_middle.symm.mem_iff.1 hc
    obtain ⟨k0, k1, k2, k3⟩ := R.d.get c hc'
    obtain ⟨m1, m2, m3⟩ := M.st c k1 k2
    exact ⟨k0, m1, m2, m3.trans k3⟩
  · exact List.perm_middle.nodup_iff.1 R.d.nd

/-- A range over a function. -/
theorem DW.rfn (Kp : POk P) {n i g r : Nat} {params : Array Tmp} {ca cb : Code} {Q : QQ} {xs us : List DV} {tb : DT} (hi : i < FB) (hx : okOperand P (.tmp i) = true) (hl : lk t i = some (.clo g xs us)) {fn : Func} (hf : P.funcs[g]? = some fn) (hb : fn.body.isSome = true)
    (hfx : L.fx = r) (hrn : r < L.nx) (hr : lkO L.m r = none) (hm : ∀ j x, lkO L.m j = some x → x.kill (isN r) = x) (ht : ∀ i d, lk t i = some d → d.kill (isN r) = d) (htb : ∀ i d, lk tb i = some d → lk t i = some d ∧ i < FB)
    (H : DI P g (xs ++ [.yl r] ++ us) t ⟨L.nx, r + 1, (r, .lp .ready .normal n params.toList ca cb tb) :: L.m⟩ fun _ t' L' => ∃ ls pe tb', L'.fx = r + 1 ∧ lkO L'.m r = some (.lp ls pe n params.toList ca cb tb') ∧ ls ≠ .busy ∧ Q pe ⟨t'.map fun x => (x.1, DV.kill (isN r) x.2), ⟨L'.nx, r, killO (isN r) (rmO r L'.m)⟩⟩) :
    DW P ⟨n, true⟩ (.rangeFunc (.tmp i) params ca cb) Q ⟨t, L⟩ := by
  intro E η s N B R
  obtain ⟨v, h1, h2⟩ := R.slots i _ hl
  have h1 := R.own hi h1
  have R2 := R.mark B hfx hrn hr hm ht htb (n := n) (ps := params.toList) (ca := ca) (cb := cb)
  obtain ⟨v2, h3, h4⟩ := R2.slots i _ hl
  have h3 := R2.own hi h3
  have e : v2 = v := Option.some.inj (h3.symm.trans h1)
  subst e
  cases h4 with
  | @clo _ _ _ vs ws hxl hxs hul hus =>
  refine AW.rangeFunc Kp hx (fun j e => by cases e; rw [h1]; rfl) (first := vs) (captured := ws) (by simp [pev, h1]) hf hb ?_
  refine ACalls.of_base fun Bs => ?_
  refine (H.2 ⟨E.h, setN E.η r (s.h.n + 1), E.O, E.G, E.sv, s.h.n :: E.dv⟩ (setN η r (s.h.n + 1)) ⟨s.t, (s.h.push (.deferred false)).push (.lp ⟨.ready, none, n, s.t, params.toList, ca, cb⟩), s.d⟩ (vs.toList ++ [.func (.yield (s.h.n + 1)) #[] #[]] ++ ws.toList) B Bs R2 ?_).mono ?_
  · refine PV.append (PV.append ⟨by simpa using hxl, fun i d x hd hx => hxs i d x hd (by simpa using hx)⟩ (PV.one (.yl (.inr ⟨rfl, rfl⟩)))) ⟨by simpa using hul, fun i d x hd hx => hus i d x hd (by simpa using hx)⟩
  · rintro v h' ⟨d, t', L', η', ⟨ls, pe, tb', k1, k2, k3, k4⟩, hv, R3⟩
    obtain ⟨pl, g1, g2, g3, R4⟩ := RS.unmark (fun j c hE => by have q : j < L.fx := R.hs.rs j c hE; omega) R3 k1 k2
    exact ⟨pl, pe, g1, by rw [g2]; exact k3, g3, _, _, k4, R4⟩

/-- The mark of a loop is turned. -/
theorem RS.turn {s : AS} (R : RS E η ⟨t, L⟩ s) {r b n : Nat} {ps : List Nat} {ca cb : Code} {tb tb' : DT} {ls ls' : LoopState} {pe pe' : AEx} {pl : PLoop} (hl : lkO L.m r = some (.lp ls pe n ps ca cb tb)) (hb : η r b)
    (hg : s.h.get b = .lp pl) (htb : ∀ i d, lk tb' i = some d → lk tb i = some d) :
    RS E η ⟨t, ⟨L.nx, L.fx, stO L.m r (.lp ls' pe' n ps ca cb tb')⟩⟩ ⟨s.t, s.h.set b (.lp { pl with state := ls', pending := exCode pe' }), s.d⟩ := by
  have H := R.hs
  have hrow : (AObj.lp { pl with state := ls', pending := exCode pe' }).row.map (·.length) = blen s.h b := by unfold blen; rw [hg]; rfl
  have hz : eszOf (s.h.set b (.lp { pl with state := ls', pending := exCode pe' })) b = eszOf s.h b := by unfold eszOf; rw [AHeap.get_set, if_pos rfl, hg]
  have M := H.mvWrite (l := .lp ls' pe' n ps ca cb tb') hl hb hrow hz
  have hloc : LocR s.h (Fz E.gd η L.m) η (.lp pl) (.lp ls pe n ps ca cb tb) := by
    rcases H.own.loc r _ hl with ⟨c, h1, h2⟩ | ⟨⟨e, xs, q, _⟩, _⟩
    · have := H.own.fn r b c hb h1
      subst this
      rw [hg] at h2
      exact h2
    · cases q
  refine ⟨fun i d hi => ?_, H.write hl hb hrow hz ?_, R.d.mv M, R.lt, R.sv⟩
  · obtain ⟨v, h1, h2⟩ := R.slots i d hi
    exact ⟨v, h1, h2.mono M.st M.kp⟩
  · cases hloc with
    | lp hta hv => exact .lp hta fun i d hi => let ⟨v, h2, h3⟩ := hv i d (htb i d hi); ⟨v, h2, h3.mono M.st M.kp⟩

/-! A round. -/

def setD (t : DT) : List Nat → List DV → DT
  | p :: ps, d :: ds => setD ((p, d) :: t) ps ds
  | _, _ => t

/-- The slots of a round's frame. -/
theorem setD_look {F : Nat → Prop} : ∀ (ps : List Nat) (ds : List DV) (vs : List Value) (t : DT) (ta : PT), PV h F η ds vs → (∀ i d, lk t i = some d → ∃ v, look? ta i = some v ∧ RdV h F η d v) →
    ∀ i d, lk (setD t ps ds) i = some d → ∃ v, look? (setP ta ps vs) i = some v ∧ RdV h F η d v
  | [], ds, vs, t, ta, hp, H, i, d, hi => by simp only [setD, setP] at hi ⊢; exact H i d hi
  | p :: ps, [], vs, t, ta, hp, H, i, d, hi => by
    have : vs = [] := List.eq_nil_of_length_eq_zero hp.1.symm
    subst this
    simp only [setD, setP] at hi ⊢; exact H i d hi
  | p :: ps, d0 :: ds, [], t, ta, hp, H, i, d, hi => by have := hp.1; simp at this
  | p :: ps, d0 :: ds, v0 :: vs, t, ta, hp, H, i, d, hi => by
    simp only [setD, setP] at hi ⊢
    refine setD_look ps ds vs _ _ ⟨by have := hp.1; simpa using this, fun k x y hx hy => hp.2 (k + 1) x y (by simpa using hx) (by simpa using hy)⟩ (fun k x hx => ?_) i d hi
    simp only [lk, look?] at hx ⊢
    cases hb : Nat.beq k p with
    | true => rw [hb] at hx; cases hx; exact ⟨v0, rfl, hp.2 0 _ _ rfl rfl⟩
    | false => rw [hb] at hx; exact H k x hx

theorem setP_lt {B : Nat} : ∀ (ps : List Nat) (vs : List Value) (ta : PT), (ps.all fun p => Nat.blt p B) = true → (∀ i v, look? ta i = some v → i < B) → ∀ i v, look? (setP ta ps vs) i = some v → i < B
  | [], vs, ta, hp, H, i, v, hi => by simp only [setP] at hi; exact H i v hi
  | p :: ps, [], ta, hp, H, i, v, hi => by simp only [setP] at hi; exact H i v hi
  | p :: ps, v0 :: vs, ta, hp, H, i, v, hi => by
    simp only [List.all_cons, Bool.and_eq_true] at hp
    simp only [setP] at hi
    refine setP_lt ps vs _ hp.2 (fun k x hx => ?_) i v hi
    simp only [look?] at hx
    cases hb : Nat.beq k p with
    | true =>
      have := Nat.eq_of_beq_eq_true hb
      have h2 : p < B := by simpa [Nat.blt_eq] using hp.1
      omega
    | false => rw [hb] at hx; exact H k x hx

end Go.Am

