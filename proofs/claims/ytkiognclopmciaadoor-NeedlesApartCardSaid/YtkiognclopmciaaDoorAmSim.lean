/-
  The abstract machine: the simulation.
-/
import Derived.Test.YtkiognclopmciaaDoorAmRun
namespace Go.Am
open Go Go.RowKit

variable {P : Program} {ρ : Ren} {w0 w : World} {h : AHeap}

structure MR (P : Program) (ρ : Ren) (w0 : World) (cs0 : List Frame) (s : AState) (fr : Frame) (cs : List Frame) (w : World) : Prop where
  cur : FR ρ s.cur fr
  callers : CR ρ cs0 s.callers cs
  heap : HR P ρ w0 s.h w

/-- What the program must be. -/
structure POk (P : Program) : Prop where
  mixed : P.follows .mixedOrders = true
  names : ∀ (f : Nat) (fn : Func), P.funcs[f]? = some fn → (fn.name == "runtime.NumGoroutine") = false

def Sim (P : Program) (w0 : World) (cs0 : List Frame) (s' : AState) (fr : Frame) (cs : List Frame) (w : World) : Prop :=
  ∃ ρ' fr' cs' w', Steps P (lone fr cs w) (lone fr' cs' w') ∧ MR P ρ' w0 cs0 s' fr' cs' w'

variable {cs0 : List Frame}

theorem Sim.of_one {s' : AState} {fr fr' : Frame} {cs cs' : List Frame} {w' : World} (hs : step P (lone fr cs w) = .next (lone fr' cs' w')) (H : MR P ρ w0 cs0 s' fr' cs' w') : Sim P w0 cs0 s' fr cs w :=
  ⟨ρ, fr', cs', w', .one hs, H⟩

theorem enter_sim {fn : Func} {f : FuncId} {body : Code} {args : List Value} {args' : Array Value} (hf : P.funcs[f]? = some fn) (hb : fn.body = some body) (hl : LR ρ args args'.toList) (h1 : args.length ≤ fn.ntmps):
    FR ρ ⟨f, ⟨fn.ntmps, Tmps.fill .nil 0 args⟩, [.code body], none, [], false⟩ (Frame.enter P f args' .normal) := by
  refine ⟨rfl, ?_, ?_, .none, .nil, rfl, rfl⟩
  · have := enter_TR hl h1
    simpa [Frame.enter, hf] using this
  · have : (Frame.enter P f args' .normal).todo = [.code body] := by simp [Frame.enter, hf, hb]
    rw [this]
    exact .cons (.code body) .nil

theorem aenter_spec {callers : List AFrame} {f : FuncId} {args : List Value} {s' : AState} (hf : aenter P callers h f args = some (.next s')) :
    ∃ fn body, P.funcs[f]? = some fn ∧ fn.body = some body ∧ args.length ≤ fn.ntmps ∧ s' = ⟨⟨f, ⟨fn.ntmps, Tmps.fill .nil 0 args⟩, [.code body], none, [], false⟩, callers, h⟩ := by
  unfold aenter at hf
  split at hf
  · rename_i fn hfn
    split at hf
    · rename_i body hb
      split at hf
      · rename_i hc
        cases hf
        exact ⟨fn, body, hfn, hb, by simpa [Nat.ble_eq] using hc, rfl⟩
      · cases hf
    · cases hf
  · cases hf

theorem aenter_not_done {callers : List AFrame} {f : FuncId} {args : List Value} {v : Value} {h' : AHeap} (hf : aenter P callers h f args = some (.done v h')) : False := by
  unfold aenter at hf
  split at hf
  · split at hf
    · split at hf <;> cases hf
    · cases hf
  · cases hf

theorem run_endRound {l : Nat} {L : Loop} (hw : w.heap[l]? = some (.loop L)) (jump : Option Code) :
    (Instr.endRound l jump).run P w = .ok (.bool jump.isNone) { w with heap := w.heap.setIfInBounds l (.loop { L with state := if jump.isNone then .ready else .done, pending := jump }) } := by
  simp only [Instr.endRound, Sem.run_bind, run_getLoop hw, Result.andThen_ok, run_setObj hw (fun a b c e => by cases e), Sem.run_pure]

/-- A frame is left. -/
theorem aleave_sim {fn : FuncId} {tmps : Tmps} {todo : List AItem} {ro : Option Nat} {ds : List Nat} {callers : List AFrame} {jump : Option Code} {r : AStep} {s' : AState} {fr : Frame} {cs : List Frame}
    (hr : aleave ⟨fn, tmps, todo, ro, ds, false⟩ callers h jump = some r) (hs : r = .next s') (H : MR P ρ w0 cs0 ⟨⟨fn, tmps, todo, ro, ds, false⟩, callers, h⟩ fr cs w)
    (hend : fr.roundOf = none → (jump = none ∨ jump = some .ret) → step P (lone fr cs w) = .next (lone { fr with mode := .returning } cs w))
    (hround : ∀ l c cs' v w', fr.roundOf = some l → cs = c :: cs' → (Instr.endRound l jump).run P w = .ok v w' → step P (lone fr cs w) = .next (lone (c.finish v) cs' w')) :
    Sim P w0 cs0 s' fr cs w := by
  subst hs
  unfold aleave at hr
  obtain ⟨F, Cs, Hh⟩ := H
  simp only at F Cs Hh hr
  have hro := F.ro
  cases ro with
  | none =>
    simp only at hr
    cases hro' : fr.roundOf with
    | some l => rw [hro'] at hro; cases hro
    | none =>
      have fin : (jump = none ∨ jump = some .ret) → s' = ⟨⟨fn, tmps, todo, none, ds, true⟩, callers, h⟩ → Sim P w0 cs0 s' fr cs w := fun hj hs => by
        subst hs
        exact .of_one (hend hro' hj) ⟨⟨F.fn, F.tmps, F.todo, F.ro, F.defers, rfl, F.kind⟩, Cs, Hh⟩
      split at hr
      · simp only [if_true, Option.some.injEq, AStep.next.injEq] at hr
        exact fin (.inl rfl) hr.symm
      · simp only [if_true, Option.some.injEq, AStep.next.injEq] at hr
        exact fin (.inr rfl) hr.symm
      · simp at hr
  | some l =>
    simp only at hr
    cases hro' : fr.roundOf with
    | none => rw [hro'] at hro; cases hro
    | some lb =>
      rw [hro'] at hro
      cases hro with
      | some hp =>
        rename_i p
        split at hr
        · rename_i st pd lf lt lp la lbd ld c cs' hg
          split at hr
          · rename_i c' hc'
            cases hr
            cases Cs with
            | cons hc hcs =>
              rename_i cf cfs
              obtain ⟨h1, L, h2, h3⟩ := Hh.loop hp hg
              have hrun := run_endRound (P := P) h2 jump
              have hstep := hround p.b cf cfs _ _ hro' rfl hrun
              refine .of_one hstep ⟨finish_sim hc hc' (.bool _), hcs, Hh.setLoop hp hg ⟨rfl, rfl, h3.fn, h3.tmps, h3.params, h3.assign, h3.body, h3.defers⟩⟩
          · cases hr
        · cases hr

theorem run_beginRound {l : Nat} {L : Loop} (hw : w.heap[l]? = some (.loop L)) (hst : L.state = .ready) :
    (Instr.beginRound l).run P w = .ok () { w with heap := w.heap.setIfInBounds l (.loop { L with state := .busy }) } := by
  simp only [Instr.beginRound, Sem.run_bind, run_getLoop hw, Result.andThen_ok, run_setObj hw (fun a b c e => by cases e), hst, Sem.run_pure]

theorem run_endLoop {l : Nat} {L : Loop} (hw : w.heap[l]? = some (.loop L)) (hst : L.state ≠ .busy) :
    (Instr.endLoop l).run P w = .ok L.pending { w with heap := w.heap.setIfInBounds l (.loop { L with state := .exhausted }) } := by
  have : (L.state == .busy) = false := by simpa using hst
  simp only [Instr.endLoop, Sem.run_bind, run_getLoop hw, Result.andThen_ok, this, Bool.false_eq_true, if_false, run_setObj hw (fun a b c e => by cases e), Sem.run_pure]

theorem run_yield {l : Nat} {L : Loop} {args : Array Value} (hw : w.heap[l]? = some (.loop L)) (hn : args.size = L.params.size) :
    (Instr.yield l args).run P w = .ok (.round l L.fn ((L.params.zip args).foldl (fun tmps (t, a) => tmps.setIfInBounds t a) L.tmps) L.assign L.body) w := by
  simp [Instr.yield, run_getLoop hw, hn]

theorem aev_one {t : Tmps} {a : Act} (H : HR P ρ w0 h w) (HT : TR ρ t a.tmps) {x : Operand} (hx : okOperand P x = true ∨ ∃ i, x = .tmp i) : VR ρ (aev t x) (a.eval x) := by
  cases x with
  | tmp i => exact HT.2 i
  | const v =>
    rcases hx with hx | ⟨i, hi⟩
    · exact plainV_sim hx
    · cases hi
  | global g =>
    rcases hx with hx | ⟨i, hi⟩
    · obtain ⟨p, hp, hb, hs⟩ := H.glob g (by simpa [okOperand, Nat.blt_eq] using hx)
      have := VR.ptr (ρ := ρ) 0 hp
      rw [hb, hs] at this
      simpa [Act.eval, aev] using this
    · cases hi
  | func g => exact .func _ _ _ _ _ _ (.func g) rfl (fun i x y h => by simp at h) rfl (fun i x y h => by simp at h)

/-- A condition. -/
theorem cond_sim {t : Tmps} {a : Act} (HT : TR ρ t a.tmps) {c : Operand} {b : Bool} (hc : aev t c = .bool b) : a.eval c = .bool b := by
  cases c with
  | tmp i =>
    have := HT.2 i
    simp only [aev] at hc
    rw [hc] at this
    generalize hy : a.tmps.getD i undef = y at this
    cases this
    simpa [Act.eval] using hy
  | const v => exact hc
  | global g => cases hc
  | func g => cases hc

def rvC (c : Array Value) : ResultVar → Sem Value
  | .tmp i => pure (c.getD i undef)
  | .cell a ty => do loadVar ty (← asAddr (c.getD a undef))

theorem rv_sim (H : HR P ρ w0 h w) {t : Tmps} {c : Array Value} (HT : TR ρ t c) {x : ResultVar} {v : Value} (hf : rvA P h t x = some v) : ∃ v', (rvC c x).run P w = .ok v' w ∧ VR ρ v v' := by
  cases x with
  | tmp i => simp only [rvA, Option.some.injEq] at hf; subst hf; exact ⟨_, rfl, HT.2 i⟩
  | cell a ty =>
    simp only [rvA] at hf
    obtain ⟨v', h3, h4⟩ := aload_sim H hf (HT.2 a)
    have hp : ∃ ad, c.getD a undef = .pointer (some ad) := by
      have hv := HT.2 a
      unfold aload at hf
      split at hf
      · rename_i he
        rw [he] at hv
        generalize c.getD a undef = y at hv
        cases hv
        exact ⟨_, rfl⟩
      · cases hf
    obtain ⟨ad, had⟩ := hp
    rw [had] at h3
    simp only [Instr.loadAt, Instr.sureAddr, Sem.run_bind, Sem.run_pure, Result.andThen_ok] at h3
    exact ⟨v', by simp only [rvC, Sem.run_bind, had, asAddr, Sem.run_pure, Result.andThen_ok, h3], h4⟩

theorem rvs_sim (H : HR P ρ w0 h w) {t : Tmps} {c : Array Value} (HT : TR ρ t c) : ∀ (l : List ResultVar) (vs : List Value), l.mapM (rvA P h t) = some vs →
    ∃ vs', (l.mapM (rvC c)).run P w = .ok vs' w ∧ LR ρ vs vs'
  | [], vs, hv => by simp at hv; subst hv; exact ⟨[], rfl, LR.nil ρ⟩
  | x :: l, vs, hv => by
    simp only [List.mapM_cons, Option.bind_eq_bind, Option.pure_def] at hv
    cases hx : rvA P h t x with
    | none => simp [hx] at hv
    | some v =>
      cases hr : l.mapM (rvA P h t) with
      | none => simp [hx, hr] at hv
      | some rest =>
        simp only [hx, hr, Option.bind_some, Option.some.injEq] at hv
        subst hv
        obtain ⟨v', h3, h4⟩ := rv_sim H HT hx
        obtain ⟨vs', h1, h2⟩ := rvs_sim H HT l rest hr
        exact ⟨v' :: vs', by simp only [List.mapM_cons, Sem.run_bind, Sem.run_pure, Result.andThen_ok, h3, h1], LR.cons h4 h2⟩

theorem results_eq (fn : Func) (c : Array Value) : results fn c = (do let vs ← fn.results.mapM (rvC c); pure (if h : vs.size = 1 then vs[0] else .tuple vs)) := by
  unfold results
  congr 1

theorem aresults_sim (H : HR P ρ w0 h w) {fn : Func} {t : Tmps} {c : Array Value} (HT : TR ρ t c) {v : Value} (hf : aresults P fn h t = some v) :
    ∃ v', (results fn c).run P w = .ok v' w ∧ VR ρ v v' := by
  unfold aresults at hf
  cases hm : fn.results.toList.mapM (rvA P h t) with
  | none => simp [hm] at hf
  | some vs =>
    obtain ⟨vs', h1, h2⟩ := rvs_sim H HT _ _ hm
    have hrun : (fn.results.mapM (rvC c)).run P w = .ok vs'.toArray w := by
      rw [Array.mapM_eq_mapM_toList]
      simp only [Sem.run_map, h1, Result.andThen_ok]
    have hres : (results fn c).run P w = .ok (if hh : vs'.toArray.size = 1 then vs'.toArray[0] else .tuple vs'.toArray) w := by
      rw [results_eq]
      simp only [Sem.run_bind, hrun, Result.andThen_ok, Sem.run_pure]
    rw [hm] at hf
    match vs, hf, h2 with
    | [v1], hf, h2 =>
      simp only [Option.some.injEq] at hf
      subst hf
      obtain ⟨y, ys, rfl, hv, hs⟩ := h2.uncons
      have := hs.nil_left
      subst this
      exact ⟨y, by rw [hres]; simp, hv⟩
    | [], hf, h2 =>
      simp only [Option.some.injEq] at hf
      subst hf
      have := h2.nil_left
      subst this
      exact ⟨_, by rw [hres]; simp, VR.tuple_of (LR.nil ρ)⟩
    | a :: b :: r, hf, h2 =>
      simp only [Option.some.injEq] at hf
      subst hf
      have hl : ¬ vs'.toArray.size = 1 := by
        have := h2.1
        simp at this ⊢
        omega
      exact ⟨_, by rw [hres, dif_neg hl], VR.tuple_of h2⟩

theorem POk.step_enter (K : POk P) {f : FuncId} {fn : Func} {body : Code} (hf : P.funcs[f]? = some fn) (hb : fn.body = some body) : fn.body.isSome = true ∧ (fn.name == "runtime.NumGoroutine") = false :=
  ⟨by rw [hb]; rfl, K.names f fn hf⟩

theorem step_uncollect {fr : Frame} {cs : List Frame} {b : Nat} {ds : List Deferred} (hm : fr.mode = .returning) (hd : fr.defers = { target := .collected b, args := #[] } :: ds) (hw : w.heap[b]? = some (.deferred (some []))) :
    step P (lone fr cs w) = .next (lone { fr with defers := ds } cs { w with heap := w.heap.setIfInBounds b (.deferred none) }) := by
  have hr : (Instr.takeDeferred b).run P w = .ok [] { w with heap := w.heap.setIfInBounds b (.deferred none) } := by
    have h1 : (getObj b).run P w = .ok (.deferred (some [])) w := by simp [getObj, Sem.run, hw]
    simp only [Instr.takeDeferred, Sem.run_bind, h1, Result.andThen_ok, run_setObj hw (fun a b c e => by cases e), Sem.run_pure]
  refine step_lone_go ?_
  cases fr
  simp only at hm hd
  subst hm hd
  simp [stepG, unwind, Sem.runT_eq, hr, GStep.bare_after]

/-- A frame that returns. -/
theorem ret_sim {fn : FuncId} {tmps : Tmps} {todo : List AItem} {ro : Option Nat} {ds : List Nat} {callers : List AFrame} {s' : AState} {fr : Frame} {cs : List Frame}
    (hr : astep P ⟨⟨fn, tmps, todo, ro, ds, true⟩, callers, h⟩ = some (.next s')) (H : MR P ρ w0 cs0 ⟨⟨fn, tmps, todo, ro, ds, true⟩, callers, h⟩ fr cs w) : Sim P w0 cs0 s' fr cs w := by
  obtain ⟨F, Cs, Hh⟩ := H
  unfold astep at hr
  have hmode : fr.mode = .returning := F.mode
  have hdef : DR ρ ds fr.defers := F.defers
  cases ds with
  | cons r ds =>
    simp only at hr
    split at hr
    · rename_i hg
      cases hr
      generalize hfd : fr.defers = fd at hdef
      cases hdef with
      | cons hp hds =>
        rename_i p ds'
        have ho := (Hh.obj r p hp).2
        rw [show (⟨⟨fn, tmps, todo, ro, r :: ds, true⟩, callers, h⟩ : AState).h = h from rfl, hg] at ho
        have hstep := step_uncollect (P := P) (cs := cs) hmode hfd ho.2
        exact .of_one hstep ⟨⟨F.fn, F.tmps, F.todo, F.ro, hds, F.mode, F.kind⟩, Cs, Hh.setObj hp (by rw [show (⟨⟨fn, tmps, todo, ro, r :: ds, true⟩, callers, h⟩ : AState).h = h from rfl, hg]; rfl) _ _ ⟨ho.1, heap_set_same ho.2⟩⟩
    · cases hr
  | nil =>
    simp only at hr
    split at hr
    · rename_i f hf
      split at hr
      · rename_i v hv
        obtain ⟨v', h1, h2⟩ := aresults_sim Hh F.tmps hv
        generalize hfd : fr.defers = fd at hdef
        cases hdef
        have hfn : fr.fn = fn := F.fn
        have hleave : fr.leaving P w (.returned v') := ⟨hmode, hfd, F.kind, f, by rw [hfn]; exact hf, h1⟩
        split at hr
        · cases hr
        · rename_i c cs'
          split at hr
          · rename_i c' hc
            cases hr
            cases Cs with
            | cons hc' hcs => exact .of_one (step_leave_returned hleave) ⟨finish_sim hc' hc h2, hcs, Hh⟩
          · cases hr
      · cases hr
    · cases hr

end Go.Am
