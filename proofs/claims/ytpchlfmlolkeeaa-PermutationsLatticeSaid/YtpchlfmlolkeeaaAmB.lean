/-
  The abstract machine: each of its steps is made by the model's machine; a run that ends is a call that returns.
-/
import Derived.Test.YtpchlfmlolkeeaaAmA
import Derived.RangeFuncIn
import Derived.IntWalk
import Derived.ProofKit
import Derived.LaidMore
import Derived.OpenShut
import Derived.Stop.Joined
set_option linter.unusedSimpArgs false
set_option linter.unusedVariables false
namespace Go.Am
open Go Go.RowKit

variable {P : Program} {ρ : Ren} {w0 w : World} {h : AHeap}

/-! Objects that are no rows. -/

theorem HR.setObj (H : HR P ρ w0 h w) {b : Nat} {p : Pl} (hp : ρ[b]? = some p) (hl : live (h.get b) = true) (ao : AObj) (o : Obj)
    (ho : OR ρ w0.heap.size p ao { w with heap := w.heap.setIfInBounds p.b o }) : HR P ρ w0 (h.set b ao) { w with heap := w.heap.setIfInBounds p.b o } := by
  have hb := (H.obj b p hp).2.base_le hl
  refine H.change hp hl ao (H.below.trans ⟨rfl, rfl, rfl, by simp, fun k hk => ?_⟩) (by simp) (fun k hk _ => ?_) ho
  · show (w.heap.setIfInBounds p.b o)[k]? = _
    rw [Array.getElem?_setIfInBounds_ne (by omega)]
  · show (w.heap.setIfInBounds p.b o)[k]? = _
    rw [Array.getElem?_setIfInBounds_ne (by omega)]

theorem run_getLoop {l : Nat} {L : Loop} (hw : w.heap[l]? = some (.loop L)) : (Instr.getLoop l).run P w = .ok L w := by
  simp [Instr.getLoop, getObj, Sem.run, hw]

theorem run_setObj {l : Nat} {o o' : Obj} (hw : w.heap[l]? = some o) (hc : ∀ a b c, o ≠ .cells a b c) : (setObj l o').run P w = .ok () { w with heap := w.heap.setIfInBounds l o' } := by
  unfold setObj
  cases o <;> simp [Sem.run, hw] <;> exact absurd rfl (hc _ _ _)

theorem heap_set_same {l : Nat} {o o' : Obj} (hw : w.heap[l]? = some o) : (w.heap.setIfInBounds l o')[l]? = some o' := by
  have := (Array.getElem?_eq_some_iff.1 hw).1
  simp [this]

theorem HR.loop (H : HR P ρ w0 h w) {b : Nat} {p : Pl} {l : ALoop} (hp : ρ[b]? = some p) (hg : h.get b = .loop l) : w0.heap.size ≤ p.b ∧ ∃ L, w.heap[p.b]? = some (.loop L) ∧ LoopR ρ l L := by
  have := (H.obj b p hp).2
  rw [hg] at this
  exact this

theorem HR.setLoop (H : HR P ρ w0 h w) {b : Nat} {p : Pl} {l l' : ALoop} {L' : Loop} (hp : ρ[b]? = some p) (hg : h.get b = .loop l) (hl : LoopR ρ l' L') :
    HR P ρ w0 (h.set b (.loop l')) { w with heap := w.heap.setIfInBounds p.b (.loop L') } := by
  obtain ⟨h1, L, h2, h3⟩ := H.loop hp hg
  exact H.setObj hp (by rw [hg]; rfl) _ _ ⟨h1, L', heap_set_same h2, hl⟩

/-! Frames. -/

theorem FR.atR {a : AFrame} {fr : Frame} (F : FR ρ a fr) (hr : a.ret = false) : fr = fr.atR ⟨fr.tmps, fr.defers⟩ fr.todo := by
  have := F.mode
  rw [hr] at this
  cases fr
  simp at this
  subst this
  rfl

theorem FR.of_atR {b : Frame} {a : Act} {todo : List Item} {fn : FuncId} {tmps : Tmps} {atodo : List AItem} {ro : Option Nat} {ds : List Nat} (h1 : b.fn = fn) (h2 : TR ρ tmps a.tmps) (h3 : TodoR ρ atodo todo)
    (h4 : RO ρ ro b.roundOf) (h5 : DR ρ ds a.defers) (h6 : b.kind = .normal) : FR ρ ⟨fn, tmps, atodo, ro, ds, false⟩ (b.atR a todo) := ⟨h1, h2, h3, h4, h5, rfl, h6⟩

theorem finish_sim {c c' : AFrame} {cf : Frame} {v v' : Value} (F : FR ρ c cf) (hf : c.finish v = some c') (hv : VR ρ v v') : FR ρ c' (cf.finish v') := by
  obtain ⟨fn, tmps, todo, ro, ds, ret⟩ := c
  obtain ⟨h1, h2, h3, h4, h5, h6, h7⟩ := F
  unfold AFrame.finish at hf
  have h3 : TodoR ρ todo cf.todo := h3
  generalize hcf : cf.todo = ct at h3
  cases h3 with
  | nil => simp at hf
  | cons hx hs =>
    cases hx with
    | ops all k hk =>
      cases hrest : all.toList.drop k with
      | nil => rw [hrest] at hf; simp at hf
      | cons o rest =>
        rw [hrest] at hf
        simp only at hf
        split at hf
        · rename_i hd
          cases hf
          obtain ⟨hlt, ho, hr⟩ := drop_cons hrest
          rw [range'_cons hlt] at hcf
          have hput := TR.put (ρ := ρ) (a := ⟨cf.tmps, cf.defers⟩) h2 hd hv
          subst hr
          unfold Frame.finish
          rw [hcf]
          simp only [ho, Option.bind_some]
          refine ⟨h1, ?_, .cons (.ops all (k + 1) hlt) hs, h4, h5, h6, h7⟩
          cases hdst : o.dst with
          | none => simp only; exact h2
          | some d => simp only; rw [hdst] at hput; exact hput
        · cases hf
    | inRangeFunc hp =>
      rename_i l p
      cases hf
      unfold Frame.finish
      rw [hcf]
      exact ⟨h1, h2, .cons (.endRangeFunc hp) hs, h4, h5, h6, h7⟩
    | _ => simp at hf

theorem aexitTo_sim (id : Nat) {k : List AItem} {k' : List Item} (H : TodoR ρ k k') : (∀ r, aexitTo id k = some r → ∃ r', exitTo id k' = some r' ∧ TodoR ρ r r') ∧ (aexitTo id k = none → exitTo id k' = none) := by
  induction H with
  | nil => exact ⟨fun r h => by simp [aexitTo] at h, fun _ => rfl⟩
  | cons hx hs ih =>
    cases hx with
    | inBlock id' =>
      simp only [aexitTo, exitTo]
      by_cases he : (id' == id) = true
      · simp only [he, if_true]
        exact ⟨fun r h => by cases h; exact ⟨_, rfl, hs⟩, fun h => by cases h⟩
      · simp only [he]; exact ih
    | _ => simp only [aexitTo, exitTo]; exact ih

theorem agotoIn_sim (l : Nat) {k : List AItem} {k' : List Item} (H : TodoR ρ k k') : (∀ r, agotoIn l k = some r → ∃ r', gotoIn l k' = some r' ∧ TodoR ρ r r') ∧ (agotoIn l k = none → gotoIn l k' = none) := by
  induction H with
  | nil => exact ⟨fun r h => by simp [agotoIn] at h, fun _ => rfl⟩
  | cons hx hs ih =>
    cases hx with
    | inScope body =>
      simp only [agotoIn, gotoIn]
      cases hf : findLabel body l with
      | none => simp only; exact ih
      | some rest => exact ⟨fun r h => by cases h; exact ⟨_, rfl, .cons (.code _) (.cons (.inScope _) hs)⟩, fun h => by cases h⟩
    | _ => simp only [agotoIn, gotoIn]; exact ih

theorem LR.snoc_get {xs ys : List Value} (H : LR ρ xs ys) (i : Nat) : VR ρ (xs.getD i undef) (ys.getD i undef) := by
  rcases Nat.lt_or_ge i xs.length with h | h
  · have h' : i < ys.length := by rw [← H.1]; exact h
    have := H.2 i xs[i] ys[i] (List.getElem?_eq_getElem h) (List.getElem?_eq_getElem h')
    simpa [List.getD_eq_getElem?_getD, List.getElem?_eq_getElem h, List.getElem?_eq_getElem h'] using this
  · have h' : ys.length ≤ i := by rw [← H.1]; exact h
    simpa [List.getD_eq_getElem?_getD, List.getElem?_eq_none h, List.getElem?_eq_none h'] using VR.undef ρ

theorem fill_get : ∀ (vs : List Value) (t : Tr Value) (i j : Nat), (Tmps.fill t i vs).get undef j = if i ≤ j ∧ j < i + vs.length then vs.getD (j - i) undef else t.get undef j
  | [], t, i, j => by simp [Tmps.fill]; omega
  | v :: vs, t, i, j => by
    simp only [Tmps.fill]
    rw [fill_get vs _ (i + 1) j, Tr.get_set _ _ _ _ _ _ (fuel_ok i)]
    simp only [List.length_cons]
    by_cases h1 : i + 1 ≤ j ∧ j < i + 1 + vs.length
    · rw [if_pos h1, if_pos (by omega)]
      obtain ⟨d, hd⟩ : ∃ d, j - i = d + 1 := ⟨j - i - 1, by omega⟩
      rw [hd, show j - (i + 1) = d from by omega]
      rfl
    · rw [if_neg h1]
      by_cases h2 : j = i
      · subst h2
        rw [if_pos rfl, if_pos (by omega)]
        simp
      · rw [if_neg h2, if_neg (by omega)]

theorem enter_TR {args : List Value} {args' : Array Value} (H : LR ρ args args'.toList) {n : Nat} (h1 : args.length ≤ n):
    TR ρ ⟨n, Tmps.fill .nil 0 args⟩ (args' ++ Array.replicate (n - args'.size) undef) := by
  have hl : args.length = args'.size := by simpa using H.1
  refine ⟨by simp; omega, fun i => ?_⟩
  show VR ρ ((Tmps.fill .nil 0 args).get undef i) _
  rw [fill_get args .nil 0 i]
  simp only [Nat.zero_le, true_and, Nat.zero_add, Nat.sub_zero]
  by_cases hi : i < args.length
  · rw [if_pos hi]
    have := H.snoc_get i
    have e : (args' ++ Array.replicate (n - args'.size) undef).getD i undef = args'.toList.getD i undef := by
      have : i < args'.size := by omega
      simp only [Array.getD_eq_getD_getElem?, List.getD_eq_getElem?_getD, Array.getElem?_toList]
      rw [Array.getElem?_append_left this]
    rw [e]; exact this
  · rw [if_neg hi]
    have e : (args' ++ Array.replicate (n - args'.size) undef).getD i undef = undef := by
      simp only [Array.getD_eq_getD_getElem?]
      rw [Array.getElem?_append_right (by omega)]
      rcases Nat.lt_or_ge (i - args'.size) (n - args'.size) with h | h
      · simp [h]
      · rw [Array.getElem?_eq_none (by simp; omega)]; rfl
    rw [e]
    exact VR.undef ρ

theorem setParams_sim : ∀ (ps : List Tmp) (args args' : List Value) (t t' : Tmps) (c : Array Value), setParams t ps args = some t' → LR ρ args args' → TR ρ t c →
    TR ρ t' ((ps.zip args').foldl (fun tmps (x : Tmp × Value) => tmps.setIfInBounds x.1 x.2) c) ∧ ps.length = args.length
  | [], [], args', t, t', c, h, hl, HT => by simp [setParams] at h; subst h; rw [hl.nil_left]; exact ⟨HT, rfl⟩
  | [], a :: as, args', t, t', c, h, hl, HT => by simp [setParams] at h
  | p :: ps, [], args', t, t', c, h, hl, HT => by simp [setParams] at h
  | p :: ps, a :: as, args', t, t', c, h, hl, HT => by
    obtain ⟨y, ys, rfl, hv, hs⟩ := hl.uncons
    simp only [setParams] at h
    split at h
    · rename_i hlt
      have := TR.put (ρ := ρ) (a := ⟨c, []⟩) HT (d := some p) hlt hv
      obtain ⟨h1, h2⟩ := setParams_sim ps as ys _ t' _ h hs this
      exact ⟨h1, by simp [h2]⟩
    · cases h

end Go.Am

/-
  The abstract machine: the simulation.
-/
namespace Go.Am
open Go Go.RowKit

variable {P : Program} {ρ : Ren} {w0 w : World} {h : AHeap}

structure MR (P : Program) (ρ : Ren) (w0 : World) (cs0 : List Frame) (s : AState) (fr : Frame) (cs : List Frame) (w : World) : Prop where
  cur : FR ρ s.cur fr
  callers : CR ρ cs0 s.callers cs
  heap : HR P ρ w0 s.h w

/-- What the program must be. -/
structure POk (P : Program) : Prop where
  mixed : P.follows .mixedOrders = true
  names : ∀ (f : Nat) (fn : Func), P.funcs[f]? = some fn → (fn.name == "runtime.NumGoroutine") = false

def Sim (P : Program) (w0 : World) (cs0 : List Frame) (s' : AState) (fr : Frame) (cs : List Frame) (w : World) : Prop :=
  ∃ ρ' fr' cs' w', Steps P (lone fr cs w) (lone fr' cs' w') ∧ MR P ρ' w0 cs0 s' fr' cs' w'

variable {cs0 : List Frame}

theorem Sim.of_one {s' : AState} {fr fr' : Frame} {cs cs' : List Frame} {w' : World} (hs : step P (lone fr cs w) = .next (lone fr' cs' w')) (H : MR P ρ w0 cs0 s' fr' cs' w') : Sim P w0 cs0 s' fr cs w :=
  ⟨ρ, fr', cs', w', .one hs, H⟩

theorem enter_sim {fn : Func} {f : FuncId} {body : Code} {args : List Value} {args' : Array Value} (hf : P.funcs[f]? = some fn) (hb : fn.body = some body) (hl : LR ρ args args'.toList) (h1 : args.length ≤ fn.ntmps):
    FR ρ ⟨f, ⟨fn.ntmps, Tmps.fill .nil 0 args⟩, [.code body], none, [], false⟩ (Frame.enter P f args' .normal) := by
  refine ⟨rfl, ?_, ?_, .none, .nil, rfl, rfl⟩
  · have := enter_TR hl h1
    simpa [Frame.enter, hf] using this
  · have : (Frame.enter P f args' .normal).todo = [.code body] := by simp [Frame.enter, hf, hb]
    rw [this]
    exact .cons (.code body) .nil

theorem aenter_spec {callers : List AFrame} {f : FuncId} {args : List Value} {s' : AState} (hf : aenter P callers h f args = some (.next s')) :
    ∃ fn body, P.funcs[f]? = some fn ∧ fn.body = some body ∧ args.length ≤ fn.ntmps ∧ s' = ⟨⟨f, ⟨fn.ntmps, Tmps.fill .nil 0 args⟩, [.code body], none, [], false⟩, callers, h⟩ := by
  unfold aenter at hf
  split at hf
  · rename_i fn hfn
    split at hf
    · rename_i body hb
      split at hf
      · rename_i hc
        cases hf
        exact ⟨fn, body, hfn, hb, by simpa [Nat.ble_eq] using hc, rfl⟩
      · cases hf
    · cases hf
  · cases hf

theorem aenter_not_done {callers : List AFrame} {f : FuncId} {args : List Value} {v : Value} {h' : AHeap} (hf : aenter P callers h f args = some (.done v h')) : False := by
  unfold aenter at hf
  split at hf
  · split at hf
    · split at hf <;> cases hf
    · cases hf
  · cases hf

theorem run_endRound {l : Nat} {L : Loop} (hw : w.heap[l]? = some (.loop L)) (jump : Option Code) :
    (Instr.endRound l jump).run P w = .ok (.bool jump.isNone) { w with heap := w.heap.setIfInBounds l (.loop { L with state := if jump.isNone then .ready else .done, pending := jump }) } := by
  simp only [Instr.endRound, Sem.run_bind, run_getLoop hw, Result.andThen_ok, run_setObj hw (fun a b c e => by cases e), Sem.run_pure]

/-- A frame is left. -/
theorem aleave_sim {fn : FuncId} {tmps : Tmps} {todo : List AItem} {ro : Option Nat} {ds : List Nat} {callers : List AFrame} {jump : Option Code} {r : AStep} {s' : AState} {fr : Frame} {cs : List Frame}
    (hr : aleave ⟨fn, tmps, todo, ro, ds, false⟩ callers h jump = some r) (hs : r = .next s') (H : MR P ρ w0 cs0 ⟨⟨fn, tmps, todo, ro, ds, false⟩, callers, h⟩ fr cs w)
    (hend : fr.roundOf = none → (jump = none ∨ jump = some .ret) → step P (lone fr cs w) = .next (lone { fr with mode := .returning } cs w))
    (hround : ∀ l c cs' v w', fr.roundOf = some l → cs = c :: cs' → (Instr.endRound l jump).run P w = .ok v w' → step P (lone fr cs w) = .next (lone (c.finish v) cs' w')) :
    Sim P w0 cs0 s' fr cs w := by
  subst hs
  unfold aleave at hr
  obtain ⟨F, Cs, Hh⟩ := H
  simp only at F Cs Hh hr
  have hro := F.ro
  cases ro with
  | none =>
    simp only at hr
    cases hro' : fr.roundOf with
    | some l => rw [hro'] at hro; cases hro
    | none =>
      have fin : (jump = none ∨ jump = some .ret) → s' = ⟨⟨fn, tmps, todo, none, ds, true⟩, callers, h⟩ → Sim P w0 cs0 s' fr cs w := fun hj hs => by
        subst hs
        exact .of_one (hend hro' hj) ⟨⟨F.fn, F.tmps, F.todo, F.ro, F.defers, rfl, F.kind⟩, Cs, Hh⟩
      split at hr
      · simp only [if_true, Option.some.injEq, AStep.next.injEq] at hr
        exact fin (.inl rfl) hr.symm
      · simp only [if_true, Option.some.injEq, AStep.next.injEq] at hr
        exact fin (.inr rfl) hr.symm
      · simp at hr
  | some l =>
    simp only at hr
    cases hro' : fr.roundOf with
    | none => rw [hro'] at hro; cases hro
    | some lb =>
      rw [hro'] at hro
      cases hro with
      | some hp =>
        rename_i p
        split at hr
        · rename_i st pd lf lt lp la lbd ld c cs' hg
          split at hr
          · rename_i c' hc'
            cases hr
            cases Cs with
            | cons hc hcs =>
              rename_i cf cfs
              obtain ⟨h1, L, h2, h3⟩ := Hh.loop hp hg
              have hrun := run_endRound (P := P) h2 jump
              have hstep := hround p.b cf cfs _ _ hro' rfl hrun
              refine .of_one hstep ⟨finish_sim hc hc' (.bool _), hcs, Hh.setLoop hp hg ⟨rfl, rfl, h3.fn, h3.tmps, h3.params, h3.assign, h3.body, h3.defers⟩⟩
          · cases hr
        · cases hr

theorem run_beginRound {l : Nat} {L : Loop} (hw : w.heap[l]? = some (.loop L)) (hst : L.state = .ready) :
    (Instr.beginRound l).run P w = .ok () { w with heap := w.heap.setIfInBounds l (.loop { L with state := .busy }) } := by
  simp only [Instr.beginRound, Sem.run_bind, run_getLoop hw, Result.andThen_ok, run_setObj hw (fun a b c e => by cases e), hst, Sem.run_pure]

theorem run_endLoop {l : Nat} {L : Loop} (hw : w.heap[l]? = some (.loop L)) (hst : L.state ≠ .busy) :
    (Instr.endLoop l).run P w = .ok L.pending { w with heap := w.heap.setIfInBounds l (.loop { L with state := .exhausted }) } := by
  have : (L.state == .busy) = false := by simpa using hst
  simp only [Instr.endLoop, Sem.run_bind, run_getLoop hw, Result.andThen_ok, this, Bool.false_eq_true, if_false, run_setObj hw (fun a b c e => by cases e), Sem.run_pure]

theorem run_yield {l : Nat} {L : Loop} {args : Array Value} (hw : w.heap[l]? = some (.loop L)) (hn : args.size = L.params.size) :
    (Instr.yield l args).run P w = .ok (.round l L.fn ((L.params.zip args).foldl (fun tmps (t, a) => tmps.setIfInBounds t a) L.tmps) L.assign L.body) w := by
  simp [Instr.yield, run_getLoop hw, hn]

theorem aev_one {t : Tmps} {a : Act} (H : HR P ρ w0 h w) (HT : TR ρ t a.tmps) {x : Operand} (hx : okOperand P x = true ∨ ∃ i, x = .tmp i) : VR ρ (aev t x) (a.eval x) := by
  cases x with
  | tmp i => exact HT.2 i
  | const v =>
    rcases hx with hx | ⟨i, hi⟩
    · exact plainV_sim hx
    · cases hi
  | global g =>
    rcases hx with hx | ⟨i, hi⟩
    · obtain ⟨p, hp, hb, hs⟩ := H.glob g (by simpa [okOperand, Nat.blt_eq] using hx)
      have := VR.ptr (ρ := ρ) 0 hp
      rw [hb, hs] at this
      simpa [Act.eval, aev] using this
    · cases hi
  | func g => exact .func _ _ _ _ _ _ (.func g) rfl (fun i x y h => by simp at h) rfl (fun i x y h => by simp at h)

/-- A condition. -/
theorem cond_sim {t : Tmps} {a : Act} (HT : TR ρ t a.tmps) {c : Operand} {b : Bool} (hc : aev t c = .bool b) : a.eval c = .bool b := by
  cases c with
  | tmp i =>
    have := HT.2 i
    simp only [aev] at hc
    rw [hc] at this
    generalize hy : a.tmps.getD i undef = y at this
    cases this
    simpa [Act.eval] using hy
  | const v => exact hc
  | global g => cases hc
  | func g => cases hc

def rvC (c : Array Value) : ResultVar → Sem Value
  | .tmp i => pure (c.getD i undef)
  | .cell a ty => do loadVar ty (← asAddr (c.getD a undef))

theorem rv_sim (H : HR P ρ w0 h w) {t : Tmps} {c : Array Value} (HT : TR ρ t c) {x : ResultVar} {v : Value} (hf : rvA P h t x = some v) : ∃ v', (rvC c x).run P w = .ok v' w ∧ VR ρ v v' := by
  cases x with
  | tmp i => simp only [rvA, Option.some.injEq] at hf; subst hf; exact ⟨_, rfl, HT.2 i⟩
  | cell a ty =>
    simp only [rvA] at hf
    obtain ⟨v', h3, h4⟩ := aload_sim H hf (HT.2 a)
    have hp : ∃ ad, c.getD a undef = .pointer (some ad) := by
      have hv := HT.2 a
      unfold aload at hf
      split at hf
      · rename_i he
        rw [he] at hv
        generalize c.getD a undef = y at hv
        cases hv
        exact ⟨_, rfl⟩
      · cases hf
    obtain ⟨ad, had⟩ := hp
    rw [had] at h3
    simp only [Instr.loadAt, Instr.sureAddr, Sem.run_bind, Sem.run_pure, Result.andThen_ok] at h3
    exact ⟨v', by simp only [rvC, Sem.run_bind, had, asAddr, Sem.run_pure, Result.andThen_ok, h3], h4⟩

theorem rvs_sim (H : HR P ρ w0 h w) {t : Tmps} {c : Array Value} (HT : TR ρ t c) : ∀ (l : List ResultVar) (vs : List Value), l.mapM (rvA P h t) = some vs →
    ∃ vs', (l.mapM (rvC c)).run P w = .ok vs' w ∧ LR ρ vs vs'
  | [], vs, hv => by simp at hv; subst hv; exact ⟨[], rfl, LR.nil ρ⟩
  | x :: l, vs, hv => by
    simp only [List.mapM_cons, Option.bind_eq_bind, Option.pure_def] at hv
    cases hx : rvA P h t x with
    | none => simp [hx] at hv
    | some v =>
      cases hr : l.mapM (rvA P h t) with
      | none => simp [hx, hr] at hv
      | some rest =>
        simp only [hx, hr, Option.bind_some, Option.some.injEq] at hv
        subst hv
        obtain ⟨v', h3, h4⟩ := rv_sim H HT hx
        obtain ⟨vs', h1, h2⟩ := rvs_sim H HT l rest hr
        exact ⟨v' :: vs', by simp only [List.mapM_cons, Sem.run_bind, Sem.run_pure, Result.andThen_ok, h3, h1], LR.cons h4 h2⟩

theorem results_eq (fn : Func) (c : Array Value) : results fn c = (do let vs ← fn.results.mapM (rvC c); pure (if h : vs.size = 1 then vs[0] else .tuple vs)) := by
  unfold results
  congr 1

theorem aresults_sim (H : HR P ρ w0 h w) {fn : Func} {t : Tmps} {c : Array Value} (HT : TR ρ t c) {v : Value} (hf : aresults P fn h t = some v) :
    ∃ v', (results fn c).run P w = .ok v' w ∧ VR ρ v v' := by
  unfold aresults at hf
  cases hm : fn.results.toList.mapM (rvA P h t) with
  | none => simp [hm] at hf
  | some vs =>
    obtain ⟨vs', h1, h2⟩ := rvs_sim H HT _ _ hm
    have hrun : (fn.results.mapM (rvC c)).run P w = .ok vs'.toArray w := by
      rw [Array.mapM_eq_mapM_toList]
      simp only [Sem.run_map, h1, Result.andThen_ok]
    have hres : (results fn c).run P w = .ok (if hh : vs'.toArray.size = 1 then vs'.toArray[0] else .tuple vs'.toArray) w := by
      rw [results_eq]
      simp only [Sem.run_bind, hrun, Result.andThen_ok, Sem.run_pure]
    rw [hm] at hf
    match vs, hf, h2 with
    | [v1], hf, h2 =>
      simp only [Option.some.injEq] at hf
      subst hf
      obtain ⟨y, ys, rfl, hv, hs⟩ := h2.uncons
      have := hs.nil_left
      subst this
      exact ⟨y, by rw [hres]; simp, hv⟩
    | [], hf, h2 =>
      simp only [Option.some.injEq] at hf
      subst hf
      have := h2.nil_left
      subst this
      exact ⟨_, by rw [hres]; simp, VR.tuple_of (LR.nil ρ)⟩
    | a :: b :: r, hf, h2 =>
      simp only [Option.some.injEq] at hf
      subst hf
      have hl : ¬ vs'.toArray.size = 1 := by
        have := h2.1
        simp at this ⊢
        omega
      exact ⟨_, by rw [hres, dif_neg hl], VR.tuple_of h2⟩

theorem POk.step_enter (K : POk P) {f : FuncId} {fn : Func} {body : Code} (hf : P.funcs[f]? = some fn) (hb : fn.body = some body) : fn.body.isSome = true ∧ (fn.name == "runtime.NumGoroutine") = false :=
  ⟨by rw [hb]; rfl, K.names f fn hf⟩

theorem step_uncollect {fr : Frame} {cs : List Frame} {b : Nat} {ds : List Deferred} (hm : fr.mode = .returning) (hd : fr.defers = { target := .collected b, args := #[] } :: ds) (hw : w.heap[b]? = some (.deferred (some []))) :
    step P (lone fr cs w) = .next (lone { fr with defers := ds } cs { w with heap := w.heap.setIfInBounds b (.deferred none) }) := by
  have hr : (Instr.takeDeferred b).run P w = .ok [] { w with heap := w.heap.setIfInBounds b (.deferred none) } := by
    have h1 : (getObj b).run P w = .ok (.deferred (some [])) w := by simp [getObj, Sem.run, hw]
    simp only [Instr.takeDeferred, Sem.run_bind, h1, Result.andThen_ok, run_setObj hw (fun a b c e => by cases e), Sem.run_pure]
  refine step_lone_go ?_
  cases fr
  simp only at hm hd
  subst hm hd
  simp [stepG, unwind, Sem.runT_eq, hr, GStep.bare_after]

/-- A frame that returns. -/
theorem ret_sim {fn : FuncId} {tmps : Tmps} {todo : List AItem} {ro : Option Nat} {ds : List Nat} {callers : List AFrame} {s' : AState} {fr : Frame} {cs : List Frame}
    (hr : astep P ⟨⟨fn, tmps, todo, ro, ds, true⟩, callers, h⟩ = some (.next s')) (H : MR P ρ w0 cs0 ⟨⟨fn, tmps, todo, ro, ds, true⟩, callers, h⟩ fr cs w) : Sim P w0 cs0 s' fr cs w := by
  obtain ⟨F, Cs, Hh⟩ := H
  unfold astep at hr
  have hmode : fr.mode = .returning := F.mode
  have hdef : DR ρ ds fr.defers := F.defers
  cases ds with
  | cons r ds =>
    simp only at hr
    split at hr
    · rename_i hg
      cases hr
      generalize hfd : fr.defers = fd at hdef
      cases hdef with
      | cons hp hds =>
        rename_i p ds'
        have ho := (Hh.obj r p hp).2
        rw [show (⟨⟨fn, tmps, todo, ro, r :: ds, true⟩, callers, h⟩ : AState).h = h from rfl, hg] at ho
        have hstep := step_uncollect (P := P) (cs := cs) hmode hfd ho.2
        exact .of_one hstep ⟨⟨F.fn, F.tmps, F.todo, F.ro, hds, F.mode, F.kind⟩, Cs, Hh.setObj hp (by rw [show (⟨⟨fn, tmps, todo, ro, r :: ds, true⟩, callers, h⟩ : AState).h = h from rfl, hg]; rfl) _ _ ⟨ho.1, heap_set_same ho.2⟩⟩
    · cases hr
  | nil =>
    simp only at hr
    split at hr
    · rename_i f hf
      split at hr
      · rename_i v hv
        obtain ⟨v', h1, h2⟩ := aresults_sim Hh F.tmps hv
        generalize hfd : fr.defers = fd at hdef
        cases hdef
        have hfn : fr.fn = fn := F.fn
        have hleave : fr.leaving P w (.returned v') := ⟨hmode, hfd, F.kind, f, by rw [hfn]; exact hf, h1⟩
        split at hr
        · cases hr
        · rename_i c cs'
          split at hr
          · rename_i c' hc
            cases hr
            cases Cs with
            | cons hc' hcs => exact .of_one (step_leave_returned hleave) ⟨finish_sim hc' hc h2, hcs, Hh⟩
          · cases hr
      · cases hr
    · cases hr

end Go.Am

/-
  The abstract machine: a run that ends is a call that returns.
-/
namespace Go.Am
open Go Go.RowKit

variable {P : Program} {ρ : Ren} {w0 w : World} {h : AHeap} {cs0 : List Frame}

theorem aop_enter {ev : Operand → Value} {o : Oper} {f : FuncId} {args : List Value} {h2 : AHeap} (hop : aop P ev h o = some (.enter f args h2)) : aeff P ev h o = some (.enter f args h2) := by
  unfold aop at hop
  cases hc : okOper P o with
  | false => simp [hc] at hop
  | true =>
    simp only [hc, cond_true] at hop
    split at hop
    · cases hop
    · exact hop

theorem aop_round {ev : Operand → Value} {o : Oper} {l : Nat} {args : List Value} (hop : aop P ev h o = some (.round l args)) : aeff P ev h o = some (.round l args) := by
  unfold aop at hop
  cases hc : okOper P o with
  | false => simp [hc] at hop
  | true =>
    simp only [hc, cond_true] at hop
    split at hop
    · cases hop
    · exact hop

/-- Operations one behind the other, and then the end of the region or a call. -/
theorem ops_sim (K : POk P) {fn : FuncId} {tmps : Tmps} {all : Array Oper} {i : Nat} {ks : List AItem} {ro : Option Nat} {ds : List Nat} {callers : List AFrame} {s' : AState} {b : Frame} {a : Act} {k : List Item} {cs : List Frame}
    (hi : i ≤ all.size) (hr : astep P ⟨⟨fn, tmps, .ops all i (all.toList.drop i) :: ks, ro, ds, false⟩, callers, h⟩ = some (.next s'))
    (h1 : b.fn = fn) (HT : TR ρ tmps a.tmps) (hk : TodoR ρ ks k) (hro : RO ρ ro b.roundOf) (hds : DR ρ ds a.defers) (hkind : b.kind = .normal) (Cs : CR ρ cs0 callers cs) (Hh : HR P ρ w0 h w) :
    Sim P w0 cs0 s' (b.atR a (.inRegion all (List.range' i (all.size - i)) :: k)) cs w := by
  simp only [astep] at hr
  split at hr
  · cases hr
  · rename_i tmps' h' k' hgo
    cases hr
    obtain ⟨ρ', a', w', hs, HT', hd', H', hrest, hk', hw', hst⟩ := goOps_sim (b := b) (todo := k) (cs := cs) _ _ _ _ _ _ _ _ ρ a w hgo rfl hi HT Hh
    have hfull : all.size ≤ k' := by
      have := List.drop_eq_nil_iff.1 hrest.symm
      simpa using this
    have : all.size - k' = 0 := by omega
    rw [this] at hst
    refine ⟨ρ', _, cs, w', hst.trans (.one stepR_region_end), ⟨FR.of_atR h1 HT' (hk.mono hs) (hro.mono hs) (by rw [hd']; exact hds.mono hs) hkind, Cs.mono hs, H'⟩⟩
  · rename_i tmps' h' k' o rest hgo
    obtain ⟨ρ', a', w', hs, HT', hd', H', hrest, hk', hw', hst⟩ := goOps_sim (b := b) (todo := k) (cs := cs) _ _ _ _ _ _ _ _ ρ a w hgo rfl hi HT Hh
    obtain ⟨hlt, ho, hrest'⟩ := drop_cons hrest.symm
    have hwant : Region.wanted o (yielded all a'.tmps) = true := by
      rw [← wanted_sim HT']; exact hw' o rest rfl
    have hcaller : FR ρ' ⟨fn, tmps', .ops all k' (o :: rest) :: ks, ro, ds, false⟩ (b.atR a' (.inRegion all (List.range' k' (all.size - k')) :: k)) := by
      rw [hrest]
      exact FR.of_atR h1 HT' (.cons (.ops all k' hk') (hk.mono hs)) (hro.mono hs) (by rw [hd']; exact hds.mono hs) hkind
    split at hr
    · rename_i f args h2 hop
      have hok := aop_okOper hop
      have hop' := aop_enter hop
      obtain ⟨rfl, args', hl, hexec⟩ := aeff_enter (P := P) (w := w') hop' (aev_sim H' HT' hok)
      obtain ⟨fn', body, hf, hb, hn1, rfl⟩ := aenter_spec hr
      obtain ⟨hb1, hb2⟩ := K.step_enter hf hb
      have hstep := stepR_enter (P := P) (b := b) (todo := k) (cs := cs) (rest := List.range' (k' + 1) (all.size - (k' + 1))) ho hwant (okOper_defer hok) (hexec fn' hf hb1 hb2)
      rw [← range'_cons hlt] at hstep
      exact ⟨ρ', _, _, w', hst.trans (.one hstep), ⟨enter_sim hf hb hl hn1, .cons hcaller (Cs.mono hs), H'⟩⟩
    · rename_i l args hop
      have hok := aop_okOper hop
      have hop' := aop_round hop
      split at hr
      · rename_i st pd lf lt lp la lb ld hg
        split at hr
        · rename_i lt' hsp
          cases hr
          obtain ⟨p, args', hp, hl, hexec⟩ := aeff_round (P := P) (w := w') hop' (aev_sim H' HT' hok)
          obtain ⟨hb0, L, hL, LR'⟩ := H'.loop hp hg
          have hps := setParams_sim lp args args'.toList lt lt' L.tmps hsp hl LR'.tmps
          have hsz : args'.size = L.params.size := by
            have e1 := hps.2
            have e2 := hl.1
            have e3 : L.params.toList.length = lp.length := congrArg List.length LR'.params
            simp at e2 e3
            omega
          have hy := run_yield (P := P) hL hsz
          rw [hy] at hexec
          have hstep := stepR_round (P := P) (b := b) (todo := k) (cs := cs) (rest := List.range' (k' + 1) (all.size - (k' + 1))) ho hwant (okOper_defer hok) hexec
          rw [← range'_cons hlt] at hstep
          refine ⟨ρ', _, _, w', hst.trans (.one hstep), ⟨⟨LR'.fn.symm ▸ rfl, ?_, ?_, .some hp, .nil, rfl, rfl⟩, .cons hcaller (Cs.mono hs), H'⟩⟩
          · have := hps.1
            have e0 : L.params.toList = lp := LR'.params
            rw [← e0] at this
            show TR ρ' lt' ((L.params.zip args').foldl (fun tmps (x : Tmp × Value) => tmps.setIfInBounds x.1 x.2) L.tmps)
            rw [← Array.foldl_toList, Array.toList_zip]
            exact this
          · have e1 := LR'.assign
            have e2 := LR'.body
            simp only at e1 e2
            show TodoR ρ' _ [.code L.assign, .beginRound, .code L.body]
            rw [e1, e2]
            exact .cons (.code _) (.cons .beginRound (.cons (.code _) .nil))
        · cases hr
      · cases hr
    · cases hr

theorem pushed2 (a : Array Obj) (x y : Obj) : ((a.push x).push y)[a.size + 1]? = some y := by
  have e : (a.push x).size = a.size + 1 := Array.size_push _
  rw [← e]; exact Array.getElem?_push_size

theorem run_resolve_range {a : Act} {f : Operand} {l : Nat} {g : FuncId} {ys vs : Array Value} (hfv : a.eval f = .func (.func g) ys vs) (w : World) :
    (resolve a.eval (rangeCall f l) 0).run P w = .ok { target := .fn (.func g) vs, args := ys ++ #[.func (.yield l) #[] #[]] } w := by
  have h1 : (rangeCall f l).args.map a.eval = #[.func (.yield l) #[] #[]] := by simp [Act.eval]
  have : resolve a.eval (rangeCall f l) 0 = Deferred.ofValue (a.eval f) ((rangeCall f l).args.map a.eval) := rfl
  rw [this, h1, hfv]
  simp [Deferred.ofValue]

/-- A frame that runs. -/
theorem run_sim (K : POk P) {fn : FuncId} {tmps : Tmps} {todo : List AItem} {ro : Option Nat} {ds : List Nat} {callers : List AFrame} {s' : AState} {fr : Frame} {cs : List Frame}
    (hr : astep P ⟨⟨fn, tmps, todo, ro, ds, false⟩, callers, h⟩ = some (.next s')) (H : MR P ρ w0 cs0 ⟨⟨fn, tmps, todo, ro, ds, false⟩, callers, h⟩ fr cs w) : Sim P w0 cs0 s' fr cs w := by
  have H0 := H
  obtain ⟨F, Cs, Hh⟩ := H
  have hfr := F.atR rfl
  obtain ⟨h1, HT, htodo, hro, hds, hmode, hkind⟩ := F
  generalize ha : (⟨fr.tmps, fr.defers⟩ : Act) = a at hfr
  have HTa : TR ρ tmps a.tmps := by rw [← ha]; exact HT
  have hdsa : DR ρ ds a.defers := by rw [← ha]; exact hds
  clear HT hds
  replace htodo : TodoR ρ todo fr.todo := htodo
  replace h1 : fr.fn = fn := h1
  replace hro : RO ρ ro fr.roundOf := hro
  replace Hh : HR P ρ w0 h w := Hh
  replace Cs : CR ρ cs0 callers cs := Cs
  generalize hcf : fr.todo = ct at htodo hfr
  -- a step to another list
  have to : ∀ (k : List AItem) (k' : List Item), TodoR ρ k k' → step P (lone (fr.atR a ct) cs w) = .next (lone (fr.atR a k') cs w) → s' = ⟨⟨fn, tmps, k, ro, ds, false⟩, callers, h⟩ → Sim P w0 cs0 s' fr cs w := fun k k' hk hs he => by
    subst he
    rw [← hfr] at hs
    exact .of_one hs ⟨FR.of_atR h1 HTa hk hro hdsa hkind, Cs, Hh⟩
  have leave : ∀ (jump : Option Code) (r : AStep), aleave ⟨fn, tmps, todo, ro, ds, false⟩ callers h jump = some r → r = .next s' →
      (fr.roundOf = none → (jump = none ∨ jump = some .ret) → step P (lone (fr.atR a ct) cs w) = .next (lone { fr.atR a ct with mode := .returning } cs w)) →
      (∀ l c cs' v w', fr.roundOf = some l → cs = c :: cs' → (Instr.endRound l jump).run P w = .ok v w' → step P (lone (fr.atR a ct) cs w) = .next (lone (c.finish v) cs' w')) → Sim P w0 cs0 s' fr cs w := by
    intro jump r hrr hs hend hround
    rw [← hfr] at hend hround
    exact aleave_sim hrr hs H0 hend hround
  cases htodo with
  | nil =>
    simp only [astep] at hr
    exact leave none _ hr rfl (fun hn _ => stepR_end hn) (fun l c cs' v w' hl hc hrun => by subst hc; exact stepR_round_end hl hkind hrun)
  | cons hx hk =>
    rename_i x y ks k
    cases hx with
    | inBlock id => simp only [astep] at hr; cases hr; exact to _ _ hk stepR_inBlock rfl
    | inScope c => simp only [astep] at hr; cases hr; exact to _ _ hk (step_lone_go (by simp [stepG, stepG.exec, Frame.atR])) rfl
    | inLoop c => simp only [astep] at hr; cases hr; exact to _ _ (.cons (.code c) (.cons (.inLoop c) hk)) stepR_inLoop rfl
    | inRangeFunc hp => simp only [astep] at hr; cases hr
    | endRangeFunc hp =>
      rename_i l p
      simp only [astep] at hr
      split at hr
      · rename_i st lpd lf lt lp la lb ld hg
        obtain ⟨hb0, L, hL, LR'⟩ := Hh.loop hp hg
        have fin : st ≠ .busy → s' = ⟨⟨fn, tmps, (lpd.map AItem.code).toList ++ ks, ro, ds, false⟩, callers, h.set l (.loop ⟨.exhausted, lpd, lf, lt, lp, la, lb, ld⟩)⟩ → Sim P w0 cs0 s' fr cs w := by
          intro hst he
          subst he
          have hst' : L.state ≠ .busy := by rw [LR'.state]; exact hst
          have hrun := run_endLoop (P := P) hL hst'
          have hstep := stepR_endRangeFunc (P := P) (b := fr) (a := a) (k := k) (cs := cs) hrun
          rw [← hfr] at hstep
          have hpd : L.pending = lpd := LR'.pending
          refine .of_one hstep ⟨FR.of_atR h1 HTa ?_ hro hdsa hkind, Cs, Hh.setLoop hp hg ⟨rfl, LR'.pending, LR'.fn, LR'.tmps, LR'.params, LR'.assign, LR'.body, LR'.defers⟩⟩
          rw [hpd]
          cases lpd with
          | none => exact hk
          | some c => exact .cons (.code c) hk
        cases st with
        | busy => cases hr
        | ready => cases hr; exact fin (by decide) rfl
        | done => cases hr; exact fin (by decide) rfl
        | exhausted => cases hr; exact fin (by decide) rfl
      · cases hr
    | beginRound =>
      simp only [astep] at hr
      cases ro with
      | none => cases hr
      | some l =>
        simp only at hr
        split at hr
        · rename_i lpd lf lt lp la lb ld hg
          cases hr
          generalize hfro : fr.roundOf = fro at hro
          cases hro with
          | some hp =>
            rename_i p
            obtain ⟨hb0, L, hL, LR'⟩ := Hh.loop hp hg
            have hrun := run_beginRound (P := P) hL LR'.state
            have hstep := stepR_beginRound (P := P) (b := fr) (a := a) (k := k) (cs := cs) hfro hrun
            rw [← hfr] at hstep
            exact .of_one hstep ⟨FR.of_atR h1 HTa hk (by rw [hfro]; exact .some hp) hdsa hkind, Cs, Hh.setLoop hp hg ⟨rfl, LR'.pending, LR'.fn, LR'.tmps, LR'.params, LR'.assign, LR'.body, LR'.defers⟩⟩
        · cases hr
    | ops all i hi =>
      have := ops_sim K (b := fr) (a := a) hi hr h1 HTa hk hro hdsa hkind Cs Hh
      rw [← hfr] at this
      exact this
    | code c =>
      cases c with
      | skip => simp only [astep] at hr; cases hr; exact to _ _ hk stepR_skip rfl
      | label l => simp only [astep] at hr; cases hr; exact to _ _ hk stepR_label rfl
      | seq c d => simp only [astep] at hr; cases hr; exact to _ _ (.cons (.code c) (.cons (.code d) hk)) stepR_seq rfl
      | block id c => simp only [astep] at hr; cases hr; exact to _ _ (.cons (.code c) (.cons (.inBlock id) hk)) stepR_block rfl
      | loop c => simp only [astep] at hr; cases hr; exact to _ _ (.cons (.code c) (.cons (.inLoop c) hk)) stepR_loop rfl
      | scope c => simp only [astep] at hr; cases hr; exact to _ _ (.cons (.code c) (.cons (.inScope c) hk)) (step_lone_go (by simp [stepG, stepG.exec, Frame.atR])) rfl
      | refuse why => simp only [astep] at hr; cases hr
      | cond c thn els =>
        simp only [astep] at hr
        split at hr
        · rename_i t ht
          cases hr
          have hc := cond_sim HTa ht
          have hs := stepR_cond (P := P) (b := fr) (k := k) (cs := cs) (w := w) (x := thn) (y := els) hc
          cases t with
          | true => exact to _ _ (.cons (.code thn) hk) (by simpa using hs) rfl
          | false => exact to _ _ (.cons (.code els) hk) (by simpa using hs) rfl
        · cases hr
      | exit id =>
        simp only [astep] at hr
        obtain ⟨e1, e2⟩ := aexitTo_sim (ρ := ρ) id hk
        split at hr
        · rename_i k' hk'
          cases hr
          obtain ⟨r', hr', hR⟩ := e1 k' hk'
          exact to _ _ hR (stepR_exit hr') rfl
        · rename_i hk'
          exact leave _ _ hr rfl (fun _ hj => by rcases hj with hj | hj <;> cases hj) (fun l c cs' v w' hl hc hrun => by subst hc; exact stepR_round_exit hl hkind (e2 hk') hrun)
      | goto l =>
        simp only [astep] at hr
        obtain ⟨e1, e2⟩ := agotoIn_sim (ρ := ρ) l hk
        split at hr
        · rename_i k' hk'
          cases hr
          obtain ⟨r', hr', hR⟩ := e1 k' hk'
          exact to _ _ hR (stepR_goto hr') rfl
        · rename_i hk'
          exact leave _ _ hr rfl (fun _ hj => by rcases hj with hj | hj <;> cases hj) (fun l c cs' v w' hl hc hrun => by subst hc; exact stepR_round_goto hl hkind (e2 hk') hrun)
      | ret =>
        simp only [astep] at hr
        exact leave _ _ hr rfl (fun hn _ => stepR_ret hn) (fun l c cs' v w' hl hc hrun => by subst hc; exact stepR_round_ret hl hkind hrun)
      | region id ops draw =>
        cases draw with
        | false =>
          simp only [astep, cond_false] at hr
          cases hr
          refine to _ _ (.cons ?_ hk) stepR_region rfl
          have := ItemR.ops (ρ := ρ) ops 0 (Nat.zero_le _)
          simpa [List.range_eq_range'] using this
        | true =>
          simp only [astep, cond_true] at hr
          cases hok : regionOk ops with
          | false => simp [hok] at hr
          | true =>
            simp only [hok, cond_true] at hr
            split at hr
            · rename_i tmps' h' hc
              cases hr
              obtain ⟨ρ', a', w', hs, HTa', hd', H', hst⟩ := draw_sim hok K.mixed hc HTa Hh id fr k cs
              rw [← hfr] at hst
              exact ⟨ρ', _, cs, w', hst, ⟨FR.of_atR h1 HTa' (hk.mono hs) (hro.mono hs) (by rw [hd']; exact hdsa.mono hs) hkind, Cs.mono hs, H'⟩⟩
            · cases hr
      | rangeFunc f params assign body =>
        clear to leave
        simp only [astep] at hr
        split at hr
        · cases hr
        · rename_i hokf
          have hokf' : okOperand P f = true := by simpa using hokf
          have hv := aev_one Hh HTa (x := f) (.inl hokf')
          split at hr
          · rename_i g first captured hg
            rw [hg] at hv
            generalize hfv : a.eval f = fv at hv
            cases hv with
            | func _ g' xs ys us vs hfn a1 a2 b1 b2 =>
            cases hfn
            have hyield : ∀ (ρ' : Ren) (l : Nat) (p : Pl), Sub ρ ρ' → ρ'[l]? = some p → LR ρ' (first.toList ++ [Value.func (.yield l) #[] #[]] ++ captured.toList) ((ys ++ #[Value.func (.yield p.b) #[] #[]]) ++ vs).toList := by
              intro ρ' l p hs hp
              simp only [Array.toList_append]
              exact (((LR.of_arrays a1 a2).mono hs).append (LR.cons (.func _ _ _ _ _ _ (.yield hp) rfl (fun i x y h => by simp at h) rfl (fun i x y h => by simp at h)) (LR.nil ρ'))).append ((LR.of_arrays b1 b2).mono hs)
            cases ro with
            | none =>
              simp only at hr
              obtain ⟨fn', bd, hf, hb, hn1, rfl⟩ := aenter_spec hr
              obtain ⟨hb1, hb2⟩ := K.step_enter hf hb
              have hb3 : ¬ fn'.name = "runtime.NumGoroutine" := by simpa using hb2
              generalize hfro : fr.roundOf = fro at hro
              cases hro
              obtain ⟨L, hL⟩ : ∃ L : Loop, L = { state := .ready, pending := none, fn := fr.fn, tmps := a.tmps, params := params, assign := assign, body := body, defers := w.heap.size } := ⟨_, rfl⟩
              have H1 := Hh.alloc (.deferred (some [])) (.deferred false) ⟨w.heap.size, 0, 0, 0⟩ rfl ⟨Hh.below.size, by show (w.heap.push _)[w.heap.size]? = _; simp⟩
              have hlast1 := Hh.last ⟨w.heap.size, 0, 0, 0⟩
              have H2 := H1.alloc (.loop L)
                (.loop ⟨.ready, none, fn, tmps, params.toList, assign, body, h.n⟩) ⟨w.heap.size + 1, 0, 0, 0⟩ (by show _ = (w.heap.push _).size; simp)
                ⟨by have := Hh.below.size; show w0.heap.size ≤ w.heap.size + 1; omega, L, pushed2 _ _ _, by subst hL; exact ⟨rfl, rfl, h1, (HTa.mono (Sub.append _ _)).mono (Sub.append _ _), rfl, rfl, rfl, _, Sub.append _ _ _ _ hlast1, rfl⟩⟩
              have hlast2 := H1.last ⟨w.heap.size + 1, 0, 0, 0⟩
              simp only [AHeap.n_push] at hlast2
              have hs : Sub ρ (ρ ++ [⟨w.heap.size, 0, 0, 0⟩] ++ [⟨w.heap.size + 1, 0, 0, 0⟩]) := (Sub.append _ _).trans (Sub.append _ _)
              have he : (Instr.enterLoop fr.fn a.tmps params assign body fr.roundOf).run P w = .ok (w.heap.size + 1, [{ target := .collected w.heap.size, args := #[] }])
                  { { w with heap := w.heap.push (.deferred (some [])) } with heap := (w.heap.push (.deferred (some []))).push (.loop L) } := by
                rw [hfro, hL]; simp [Instr.enterLoop]; rfl
              have hstep := stepR_rangeFunc (P := P) (b := fr) (a := a) (k := k) (cs := cs) (g := f) (f := g) (args := (ys ++ #[Value.func (.yield (w.heap.size + 1)) #[] #[]]) ++ vs) he
                (d := { target := .fn (.func g) vs, args := ys ++ #[Value.func (.yield (w.heap.size + 1)) #[] #[]] })
                (run_resolve_range hfv _)
                (by cases hbo : fn'.body with
                    | none => rw [hb] at hbo; cases hbo
                    | some bd' => simp [invoke, callFunc, hf, hb3, hbo]; rfl)
              rw [← hfr] at hstep
              exact ⟨_, _, _, _, .one hstep, ⟨enter_sim hf hb (hyield _ _ _ hs hlast2) hn1, .cons ⟨h1, HTa.mono hs, .cons (.inRangeFunc hlast2) (hk.mono hs), by show RO _ none fr.roundOf; rw [hfro]; exact .none, .cons (Sub.append _ _ _ _ hlast1) (hdsa.mono hs), rfl, hkind⟩ (Cs.mono hs), H2⟩⟩
            | some l0 =>
              simp only at hr
              split at hr
              · rename_i st lpd lf lt lp la lb ld hgl
                obtain ⟨fn', bd, hf, hb, hn1, rfl⟩ := aenter_spec hr
                obtain ⟨hb1, hb2⟩ := K.step_enter hf hb
                have hb3 : ¬ fn'.name = "runtime.NumGoroutine" := by simpa using hb2
                generalize hfro : fr.roundOf = fro at hro
                cases hro with
                | some hp0 =>
                rename_i p0
                obtain ⟨hb0, L0, hL0, LR0⟩ := Hh.loop hp0 hgl
                obtain ⟨pd, hpd, hpd'⟩ := LR0.defers
                obtain ⟨L, hL⟩ : ∃ L : Loop, L = { state := .ready, pending := none, fn := fr.fn, tmps := a.tmps, params := params, assign := assign, body := body, defers := L0.defers } := ⟨_, rfl⟩
                have H2 := Hh.alloc (.loop L)
                  (.loop ⟨.ready, none, fn, tmps, params.toList, assign, body, ld⟩) ⟨w.heap.size, 0, 0, 0⟩ rfl
                  ⟨Hh.below.size, L, by show (w.heap.push _)[w.heap.size]? = _; simp, by subst hL; exact ⟨rfl, rfl, h1, HTa.mono (Sub.append _ _), rfl, rfl, rfl, _, Sub.append _ _ _ _ hpd, hpd'⟩⟩
                have hlast2 := Hh.last ⟨w.heap.size, 0, 0, 0⟩
                have hs : Sub ρ (ρ ++ [⟨w.heap.size, 0, 0, 0⟩]) := Sub.append _ _
                have he : (Instr.enterLoop fr.fn a.tmps params assign body fr.roundOf).run P w = .ok (w.heap.size, [])
                    { w with heap := w.heap.push (.loop L) } := by
                  rw [hfro, hL]; simp [Instr.enterLoop, run_getLoop hL0]
                have hstep := stepR_rangeFunc (P := P) (b := fr) (a := a) (k := k) (cs := cs) (g := f) (f := g) (args := (ys ++ #[Value.func (.yield w.heap.size) #[] #[]]) ++ vs) he
                  (d := { target := .fn (.func g) vs, args := ys ++ #[Value.func (.yield w.heap.size) #[] #[]] })
                  (run_resolve_range hfv _)
                  (by cases hbo : fn'.body with
                      | none => rw [hb] at hbo; cases hbo
                      | some bd' => simp [invoke, callFunc, hf, hb3, hbo]; rfl)
                rw [← hfr] at hstep
                exact ⟨_, _, _, _, .one hstep, ⟨enter_sim hf hb (hyield _ _ _ hs hlast2) hn1, .cons ⟨h1, HTa.mono hs, .cons (.inRangeFunc hlast2) (hk.mono hs), by show RO _ (some l0) fr.roundOf; rw [hfro]; exact .some (hs _ _ hp0), hdsa.mono hs, rfl, hkind⟩ (Cs.mono hs), H2⟩⟩
              · cases hr
          · cases hr

end Go.Am

/-
  The abstract machine: a run that ends is a call that returns, in whatever world.
-/
namespace Go.Am
open Go Go.RowKit

variable {P : Program} {ρ : Ren} {w0 w : World} {h : AHeap} {cs0 : List Frame}

/-! The function at the bottom stays. -/

def lastFn (f : FuncId) : List AFrame → FuncId
  | [] => f
  | c :: cs => lastFn c.fn cs

def root (s : AState) : FuncId := lastFn s.cur.fn s.callers

theorem finish_fn {c c' : AFrame} {v : Value} (hf : c.finish v = some c') : c'.fn = c.fn := by
  unfold AFrame.finish at hf
  split at hf
  · split at hf
    · cases hf; rfl
    · cases hf
  · cases hf; rfl
  · cases hf

theorem aleave_root {fr : AFrame} {callers : List AFrame} {jump : Option Code} {s' : AState} (hr : aleave fr callers h jump = some (.next s')) : root s' = lastFn fr.fn callers := by
  obtain ⟨fn, tmps, todo, ro, ds, ret⟩ := fr
  unfold aleave at hr
  cases ro with
  | none =>
    simp only at hr
    split at hr
    · simp only [if_true, Option.some.injEq, AStep.next.injEq] at hr; subst hr; rfl
    · simp only [if_true, Option.some.injEq, AStep.next.injEq] at hr; subst hr; rfl
    · simp at hr
  | some l =>
    simp only at hr
    split at hr
    · split at hr
      · rename_i c' hc
        cases hr
        simp only [root, lastFn, finish_fn hc]
      · cases hr
    · cases hr

theorem aenter_root {callers : List AFrame} {f : FuncId} {args : List Value} {s' : AState} (hf : aenter P callers h f args = some (.next s')) : root s' = lastFn f callers := by
  obtain ⟨fn, body, _, _, _, rfl⟩ := aenter_spec hf
  rfl

theorem astep_root {s s' : AState} (hr : astep P s = some (.next s')) : root s' = root s := by
  obtain ⟨⟨fn, tmps, todo, ro, ds, ret⟩, callers, h⟩ := s
  cases ret with
  | true =>
    simp only [astep] at hr
    split at hr
    · split at hr
      · cases hr; rfl
      · cases hr
    · split at hr
      · split at hr
        · split at hr
          · cases hr
          · split at hr
            · rename_i c' hc; cases hr; simp only [root, lastFn, finish_fn hc]
            · cases hr
        · cases hr
      · cases hr
  | false =>
    cases todo with
    | nil => simp only [astep] at hr; exact aleave_root hr
    | cons x k =>
      cases x with
      | inBlock id => simp only [astep] at hr; cases hr; rfl
      | inScope c => simp only [astep] at hr; cases hr; rfl
      | inLoop c => simp only [astep] at hr; cases hr; rfl
      | inRangeFunc l => simp only [astep] at hr; cases hr
      | endRangeFunc l =>
        simp only [astep] at hr
        split at hr
        · split at hr
          · cases hr
          · cases hr; rfl
        · cases hr
      | beginRound =>
        simp only [astep] at hr
        split at hr
        · split at hr
          · cases hr; rfl
          · cases hr
        · cases hr
      | ops all i l =>
        simp only [astep] at hr
        split at hr
        · cases hr
        · cases hr; rfl
        · split at hr
          · have e := aenter_root hr; exact e
          · split at hr
            · split at hr
              · cases hr
                rename_i hg
                simp only [root, lastFn]
              · cases hr
            · cases hr
          · cases hr
      | code c =>
        cases c with
        | skip => simp only [astep] at hr; cases hr; rfl
        | label l => simp only [astep] at hr; cases hr; rfl
        | seq c d => simp only [astep] at hr; cases hr; rfl
        | block id c => simp only [astep] at hr; cases hr; rfl
        | loop c => simp only [astep] at hr; cases hr; rfl
        | scope c => simp only [astep] at hr; cases hr; rfl
        | refuse why => simp only [astep] at hr; cases hr
        | ret => simp only [astep] at hr; exact aleave_root hr
        | cond c thn els =>
          simp only [astep] at hr
          split at hr
          · cases hr; rfl
          · cases hr
        | exit id =>
          simp only [astep] at hr
          split at hr
          · cases hr; rfl
          · exact aleave_root hr
        | goto id =>
          simp only [astep] at hr
          split at hr
          · cases hr; rfl
          · exact aleave_root hr
        | region id ops draw =>
          cases draw with
          | false => simp only [astep, cond_false] at hr; cases hr; rfl
          | true =>
            simp only [astep, cond_true] at hr
            cases hok : regionOk ops with
            | false => simp [hok] at hr
            | true =>
              simp only [hok, cond_true] at hr
              split at hr
              · cases hr; rfl
              · cases hr
        | rangeFunc f params assign body =>
          simp only [astep] at hr
          split at hr
          · cases hr
          · split at hr
            · split at hr
              · have e := aenter_root hr; exact e
              · split at hr
                · have e := aenter_root hr; exact e
                · cases hr
            · cases hr

theorem step_sim (K : POk P) {s s' : AState} {fr : Frame} {cs : List Frame} (hr : astep P s = some (.next s')) (H : MR P ρ w0 cs0 s fr cs w) : Sim P w0 cs0 s' fr cs w := by
  obtain ⟨⟨fn, tmps, todo, ro, ds, ret⟩, callers, h⟩ := s
  cases ret with
  | true => exact ret_sim hr H
  | false => exact run_sim K hr H

/-- The last step. -/
theorem done_sim {s : AState} {v : Value} {h' : AHeap} {fr : Frame} {cs : List Frame} (hr : astep P s = some (.done v h')) (H : MR P ρ w0 cs0 s fr cs w) :
    h' = s.h ∧ s.callers = [] ∧ cs = cs0 ∧ ∃ v', fr.leaving P w (.returned v') ∧ VR ρ v v' := by
  obtain ⟨⟨fn, tmps, todo, ro, ds, ret⟩, callers, h⟩ := s
  obtain ⟨F, Cs, Hh⟩ := H
  have noleave : ∀ {fr callers h jump v h'}, aleave fr callers h jump = some (.done v h') → False := by
    intro fr callers h jump v h' hr
    obtain ⟨fn, tmps, todo, ro, ds, ret⟩ := fr
    unfold aleave at hr
    cases ro with
    | none => simp only at hr; split at hr <;> simp at hr
    | some l =>
      simp only at hr
      split at hr
      · split at hr <;> cases hr
      · cases hr
  cases ret with
  | true =>
    simp only [astep] at hr
    split at hr
    · split at hr <;> cases hr
    · split at hr
      · rename_i f hf
        split at hr
        · rename_i u hu
          split at hr
          · cases hr
            obtain ⟨v', h1, h2⟩ := aresults_sim Hh F.tmps hu
            have hd : DR ρ [] fr.defers := F.defers
            generalize hfd : fr.defers = fd at hd
            cases hd
            cases Cs
            have hfn : fr.fn = fn := F.fn
            exact ⟨rfl, rfl, rfl, v', ⟨F.mode, hfd, F.kind, f, by rw [hfn]; exact hf, h1⟩, h2⟩
          · split at hr <;> cases hr
        · cases hr
      · cases hr
  | false =>
    exfalso
    cases todo with
    | nil => simp only [astep] at hr; exact noleave hr
    | cons x k =>
      cases x with
      | inBlock id => simp only [astep] at hr; cases hr
      | inScope c => simp only [astep] at hr; cases hr
      | inLoop c => simp only [astep] at hr; cases hr
      | inRangeFunc l => simp only [astep] at hr; cases hr
      | endRangeFunc l =>
        simp only [astep] at hr
        split at hr
        · split at hr <;> cases hr
        · cases hr
      | beginRound =>
        simp only [astep] at hr
        split at hr
        · split at hr <;> cases hr
        · cases hr
      | ops all i l =>
        simp only [astep] at hr
        split at hr
        · cases hr
        · cases hr
        · split at hr
          · exact aenter_not_done hr
          · split at hr
            · split at hr <;> cases hr
            · cases hr
          · cases hr
      | code c =>
        cases c with
        | skip => simp only [astep] at hr; cases hr
        | label l => simp only [astep] at hr; cases hr
        | seq c d => simp only [astep] at hr; cases hr
        | block id c => simp only [astep] at hr; cases hr
        | loop c => simp only [astep] at hr; cases hr
        | scope c => simp only [astep] at hr; cases hr
        | refuse why => simp only [astep] at hr; cases hr
        | ret => simp only [astep] at hr; exact noleave hr
        | cond c thn els => simp only [astep] at hr; split at hr <;> cases hr
        | exit id =>
          simp only [astep] at hr
          split at hr
          · cases hr
          · exact noleave hr
        | goto id =>
          simp only [astep] at hr
          split at hr
          · cases hr
          · exact noleave hr
        | region id ops draw =>
          cases draw with
          | false => simp only [astep, cond_false] at hr; cases hr
          | true =>
            simp only [astep, cond_true] at hr
            cases hok : regionOk ops with
            | false => simp [hok] at hr
            | true => simp only [hok, cond_true] at hr; split at hr <;> cases hr
        | rangeFunc f params assign body =>
          simp only [astep] at hr
          split at hr
          · cases hr
          · split at hr
            · split at hr
              · exact aenter_not_done hr
              · split at hr
                · exact aenter_not_done hr
                · cases hr
            · cases hr

theorem arun_sim (K : POk P) : ∀ (n : Nat) (s : AState) (v : Value) (h' : AHeap) (ρ : Ren) (fr : Frame) (cs : List Frame) (w : World), arun P n s = some (v, h') → MR P ρ w0 cs0 s fr cs w →
    ∃ ρ' fr' w' v', Steps P (lone fr cs w) (lone fr' cs0 w') ∧ fr'.fn = root s ∧ fr'.leaving P w' (.returned v') ∧ VR ρ' v v' ∧ HR P ρ' w0 h' w' := by
  intro n
  induction n with
  | zero => intro s v h' ρ fr cs w hr; simp [arun] at hr
  | succ n ih =>
    intro s v h' ρ fr cs w hr H
    simp only [arun] at hr
    split at hr
    · rename_i s' hs
      obtain ⟨ρ1, fr1, cs1, w1, hst, H1⟩ := step_sim K hs H
      obtain ⟨ρ2, fr2, w2, v', h1, h2, h3, h4, h5⟩ := ih s' v h' ρ1 fr1 cs1 w1 hr H1
      exact ⟨ρ2, fr2, w2, v', hst.trans h1, h2.trans (astep_root hs), h3, h4, h5⟩
    · rename_i u hu hs
      cases hr
      obtain ⟨rfl, hc, rfl, v', h1, h2⟩ := done_sim hs H
      refine ⟨ρ, fr, w, v', Steps.refl _ _, ?_, h1, h2, H.heap⟩
      rw [H.cur.fn]
      unfold root
      rw [hc]
      rfl
    · cases hr

/-- A run that ends is a call that returns. -/
theorem calls_of_arun (K : POk P) {n : Nat} {f : FuncId} {fn : Func} {args : List Value} {args' : Array Value} {v : Value} {h h' : AHeap} (hf : P.funcs[f]? = some fn) {body : Code} (hb : fn.body = some body)
    (hn : args.length ≤ fn.ntmps) (hr : arun P n (enterState P f args h) = some (v, h')) (Hh : HR P ρ w0 h w) (hl : LR ρ args args'.toList) :
    Calls P f args' w fun e w' => ∃ ρ' v', e = .returned v' ∧ VR ρ' v v' ∧ HR P ρ' w0 h' w' := by
  intro cs
  have he : enterState P f args h = ⟨⟨f, ⟨fn.ntmps, Tmps.fill .nil 0 args⟩, [.code body], none, [], false⟩, [], h⟩ := by
    simp [enterState, hf, hb]
  rw [he] at hr
  obtain ⟨ρ', fr', w', v', h1, h2, h3, h4, h5⟩ := arun_sim (cs0 := cs) K n _ v h' ρ (Frame.enter P f args' .normal) cs w hr ⟨enter_sim hf hb hl hn, .nil, Hh⟩
  exact ⟨.returned v', w', fr', ⟨ρ', v', rfl, h4, h5⟩, h1, h2, h3⟩

/-- The heap before a closed call: the program's variables alone, of which nothing is known. -/
def noHeap (P : Program) : AHeap := ⟨P.globals.size, .nil⟩

def noRen : Nat → Ren
  | 0 => []
  | n + 1 => noRen n ++ [⟨n, 0, 0, 0⟩]

theorem noRen_length : ∀ n, (noRen n).length = n
  | 0 => rfl
  | n + 1 => by simp [noRen, noRen_length n]

theorem noRen_get : ∀ (n g : Nat), g < n → (noRen n)[g]? = some ⟨g, 0, 0, 0⟩
  | 0, g, h => by omega
  | n + 1, g, h => by
    simp only [noRen]
    by_cases hg : g < n
    · rw [List.getElem?_append_left (by rw [noRen_length]; exact hg)]; exact noRen_get n g hg
    · have : g = n := by omega
      subst this
      rw [List.getElem?_append_right (by rw [noRen_length]; exact Nat.le_refl _), noRen_length]
      simp

theorem HR.start (hG : P.globals.size ≤ w.heap.size) : HR P (noRen P.globals.size) w (noHeap P) w where
  len := noRen_length _
  gone := fun b _ => rfl
  obj := fun b p hp => by
    have hb : b < P.globals.size := by have := (List.getElem?_eq_some_iff.1 hp).1; rw [noRen_length] at this; exact this
    rw [noRen_get _ _ hb] at hp
    cases hp
    exact ⟨by simp only; omega, trivial⟩
  inj := fun b c p q _ _ _ hb => by
    have : (noHeap P).get b = .dead := rfl
    rw [this] at hb
    cases hb
  below := Below.refl _ _
  glob := fun g hg => ⟨_, noRen_get _ _ hg, rfl, rfl⟩

def boolTrue : Option (Value × AHeap) → Bool
  | some (.bool b, _) => b
  | _ => false

/-- A closed call that returns true. -/
theorem calls_true (K : POk P) {n : Nat} {f : FuncId} {fn : Func} {body : Code} (hf : P.funcs[f]? = some fn) (hb : fn.body = some body)
    (hr : boolTrue (arun P n (enterState P f [] (noHeap P))) = true) (hG : P.globals.size ≤ w.heap.size) :
    Calls P f #[] w fun e w' => e = .returned (.bool true) ∧ Below w.heap.size w w' := by
  cases hx : arun P n (enterState P f [] (noHeap P)) with
  | none => rw [hx] at hr; cases hr
  | some x =>
    obtain ⟨v, h'⟩ := x
    rw [hx] at hr
    cases v <;> simp [boolTrue] at hr
    subst hr
    refine (calls_of_arun K hf hb (Nat.zero_le _) hx (HR.start (w := w) hG) (LR.nil _)).mono ?_
    rintro e w' ⟨ρ', v', rfl, hv, H⟩
    cases hv
    exact ⟨rfl, H.below⟩

theorem POk.of_check (h1 : P.follows .mixedOrders = true) (h2 : (P.funcs.toList.all fun fn => !(fn.name == "runtime.NumGoroutine")) = true) : POk P :=
  ⟨h1, fun f fn hf => by
    have := List.all_eq_true.1 h2 fn (Array.mem_toList_iff.2 (Array.mem_of_getElem? hf))
    simpa using this⟩

end Go.Am

/-
  A logic over the abstract heap: contracts of calls, and of code, with known slots and known blocks; no tape, no draws.
-/
namespace Go.Am
open Go Go.RowKit

variable {rr : Bool}

variable {P : Program}

/-! Known slots. -/

abbrev PT := List (Nat × Value)

def look? : PT → Nat → Option Value
  | [], _ => none
  | (d, v) :: r, i => bif Nat.beq i d then some v else look? r i

def upd (t : PT) (d : Option Tmp) (v : Value) : PT :=
  match d with
  | some d => (d, v) :: t
  | none => t

structure PR' (ρ : Ren) (n : Nat) (t : PT) (c : Array Value) : Prop where
  size : c.size = n
  known : ∀ (i : Nat) (v : Value), look? t i = some v → VR ρ v (c.getD i undef)

theorem PR'.mono {ρ ρ' : Ren} (hs : Sub ρ ρ') {n : Nat} {t : PT} {c : Array Value} (H : PR' ρ n t c) : PR' ρ' n t c := ⟨H.size, fun i v h => (H.known i v h).mono hs⟩

theorem PR'.put {ρ : Ren} {n : Nat} {t : PT} {a : Act} (H : PR' ρ n t a.tmps) {d : Option Nat} (hd : ∀ i, d = some i → i < n) {v v' : Value} (hv : VR ρ v v') : PR' ρ n (upd t d v) (a.put d v').tmps := by
  cases d with
  | none => exact H
  | some d =>
    have hlt := hd d rfl
    refine ⟨by simp [Act.put, H.size], fun i x hx => ?_⟩
    simp only [upd, look?] at hx
    simp only [Act.put]
    by_cases hi : i = d
    · subst hi
      simp at hx
      subst hx
      have : i < a.tmps.size := by rw [H.size]; exact hlt
      simpa [this] using hv
    · rw [beq_no hi] at hx
      simp only [cond_false] at hx
      have e : (a.tmps.setIfInBounds d v').getD i undef = a.tmps.getD i undef := by
        simp only [Array.getD_eq_getD_getElem?]
        rw [Array.getElem?_setIfInBounds_ne (by omega)]
      rw [e]; exact H.known i x hx

def pev (t : PT) : Operand → Value
  | .tmp i => (look? t i).getD undef
  | .const v => v
  | .global g => .pointer (some ⟨g, 0, none⟩)
  | .func f => .func (.func f) #[] #[]

/-- Are all temporaries that an operation looks at known? -/
def knows (t : PT) (o : Oper) : Bool := o.op.operands.toList.all fun | .tmp i => (look? t i).isSome | _ => true

theorem pev_sim {ρ : Ren} {w0 w : World} {h : AHeap} (H : HR P ρ w0 h w) {n : Nat} {t : PT} {a : Act} (HT : PR' ρ n t a.tmps) {o : Oper} (ho : okOper P o = true) (hk : knows t o = true) :
    ∀ x ∈ o.op.operands.toList, VR ρ (pev t x) (a.eval x) := by
  have hall : o.op.operands.toList.all (okOperand P) = true := by
    unfold okOper at ho
    split at ho
    · cases ho
    · cases ho
    · exact ho
  intro x hx
  have hok := List.all_eq_true.1 hall x hx
  have hkn := List.all_eq_true.1 hk x hx
  cases x with
  | tmp i =>
    simp only [Option.isSome_iff_exists] at hkn
    obtain ⟨v, hv⟩ := hkn
    have := HT.known i v hv
    simpa [pev, hv, Act.eval] using this
  | const v => exact plainV_sim hok
  | global g =>
    obtain ⟨p, hp, hb, hs⟩ := H.glob g (by simpa [okOperand, Nat.blt_eq] using hok)
    have := VR.ptr (ρ := ρ) 0 hp
    rw [hb, hs] at this
    simpa [Act.eval, pev] using this
  | func g => exact .func _ _ _ _ _ _ (.func g) rfl (fun i x y h => by simp at h) rfl (fun i x y h => by simp at h)

/-! Contracts. -/

def ACalls (P : Program) (f : FuncId) (args : List Value) (h : AHeap) (R : Value → AHeap → Prop) : Prop :=
  ∀ (ρ : Ren) (w0 w : World) (args' : Array Value), HR P ρ w0 h w → LR ρ args args'.toList →
    Calls P f args' w fun e w' => ∃ ρ' v v' h', R v h' ∧ e = .returned v' ∧ Sub ρ ρ' ∧ HR P ρ' w0 h' w' ∧ VR ρ' v v'

theorem ACalls.mono {f : FuncId} {args : List Value} {h : AHeap} {R R' : Value → AHeap → Prop} (H : ACalls P f args h R) (hr : ∀ v h', R v h' → R' v h') : ACalls P f args h R' :=
  fun ρ w0 w args' hh hl => (H ρ w0 w args' hh hl).mono fun _ _ ⟨ρ', v, v', h', r, rest⟩ => ⟨ρ', v, v', h', hr v h' r, rest⟩

/-! Code. -/

structure AS where
  t : PT
  h : AHeap
  d : List Nat

inductive AEx where
  | normal
  | exit (id : Nat)
  | goto (l : Nat)
  | ret

def Agree (n0 : Nat) (ρ ρ' : Ren) : Prop := ∀ (b : Nat) (p : Pl), b < n0 → ρ[b]? = some p → ρ'[b]? = some p

theorem Agree.refl (n0 : Nat) (ρ : Ren) : Agree n0 ρ ρ := fun _ _ _ h => h
theorem Agree.trans {n0 : Nat} {a b c : Ren} (h : Agree n0 a b) (k : Agree n0 b c) : Agree n0 a c := fun i p hi hp => k i p hi (h i p hi hp)
theorem Sub.agree {ρ ρ' : Ren} (h : Sub ρ ρ') (n0 : Nat) : Agree n0 ρ ρ' := fun b p _ hp => h b p hp

def ArrA (P : Program) (m : Machine) (b : Frame) (k : List Item) (cs : List Frame) : AEx → Act → World → Prop
  | .normal, a, w => Steps P m (lone (b.atR a k) cs w)
  | .exit id, a, w => ∃ k1, exitTo id k1 = exitTo id k ∧ Steps P m (lone (b.atR a (.code (.exit id) :: k1)) cs w)
  | .goto l, a, w => ∃ k1, gotoIn l k1 = gotoIn l k ∧ Steps P m (lone (b.atR a (.code (.goto l) :: k1)) cs w)
  | .ret, a, w => ∃ k1, Steps P m (lone (b.atR a (.code .ret :: k1)) cs w)

theorem ArrA.of_steps {m m1 : Machine} {b : Frame} {k : List Item} {cs : List Frame} {e : AEx} {a : Act} {w : World} (h : Steps P m m1) (h' : ArrA P m1 b k cs e a w) : ArrA P m b k cs e a w := by
  cases e with
  | normal => exact h.trans h'
  | exit id => obtain ⟨k1, h1, h2⟩ := h'; exact ⟨k1, h1, h.trans h2⟩
  | goto l => obtain ⟨k1, h1, h2⟩ := h'; exact ⟨k1, h1, h.trans h2⟩
  | ret => obtain ⟨k1, h2⟩ := h'; exact ⟨k1, h.trans h2⟩

/-- Past an item that catches nothing. -/
theorem ArrA.pass {m : Machine} {b : Frame} {x : Item} {k : List Item} {cs : List Frame} {e : AEx} {a : Act} {w : World} (hx : x.plain = true) (he : e ≠ .normal) (h : ArrA P m b (x :: k) cs e a w) : ArrA P m b k cs e a w := by
  cases e with
  | normal => exact absurd rfl he
  | exit id => obtain ⟨k1, h1, h2⟩ := h; exact ⟨k1, by rw [h1]; cases x <;> simp_all [exitTo, Item.plain], h2⟩
  | goto l => obtain ⟨k1, h1, h2⟩ := h; exact ⟨k1, by rw [h1]; cases x <;> simp_all [gotoIn, Item.plain], h2⟩
  | ret => exact h

/-- The state and the machine. -/
structure SR (P : Program) (ρ : Ren) (w0 : World) (n : Nat) (s : AS) (a : Act) (w : World) : Prop where
  t : PR' ρ n s.t a.tmps
  h : HR P ρ w0 s.h w
  d : DR ρ s.d a.defers

/-- Is the frame one of a function's own, and where that is known: none of a round? -/
def BK (rr : Bool) (b : Frame) : Prop := b.kind = .normal ∧ (rr = true → b.roundOf = none)

def AW (rr : Bool) (P : Program) (n0 n : Nat) (c : Code) (Q : AEx → AS → Prop) (s : AS) : Prop :=
  ∀ (ρ : Ren) (w0 w : World) (b : Frame) (a : Act) (k : List Item) (cs : List Frame), SR P ρ w0 n s a w → BK rr b →
    ∃ e s' ρ' a' w', Q e s' ∧ Agree n0 ρ ρ' ∧ SR P ρ' w0 n s' a' w' ∧ ArrA P (lone (b.atR a (.code c :: k)) cs w) b k cs e a' w'

variable {n0 n : Nat} {Q : AEx → AS → Prop} {s : AS}

theorem AW.mono {c : Code} {Q' : AEx → AS → Prop} (H : AW rr P n0 n c Q s) (hq : ∀ e s, Q e s → Q' e s) : AW rr P n0 n c Q' s :=
  fun ρ w0 w b a k cs hs hb => let ⟨e, s', ρ', a', w', q, rest⟩ := H ρ w0 w b a k cs hs hb; ⟨e, s', ρ', a', w', hq e s' q, rest⟩

theorem AW.skip (h : Q .normal s) : AW rr P n0 n .skip Q s := fun ρ w0 w b a k cs hs _ => ⟨.normal, s, ρ, a, w, h, .refl _ _, hs, .one stepR_skip⟩
theorem AW.label {l : Nat} (h : Q .normal s) : AW rr P n0 n (.label l) Q s := fun ρ w0 w b a k cs hs _ => ⟨.normal, s, ρ, a, w, h, .refl _ _, hs, .one stepR_label⟩
theorem AW.exit {id : Nat} (h : Q (.exit id) s) : AW rr P n0 n (.exit id) Q s := fun ρ w0 w b a k cs hs _ => ⟨.exit id, s, ρ, a, w, h, .refl _ _, hs, k, rfl, .refl _ _⟩
theorem AW.ret (h : Q .ret s) : AW rr P n0 n .ret Q s := fun ρ w0 w b a k cs hs _ => ⟨.ret, s, ρ, a, w, h, .refl _ _, hs, k, .refl _ _⟩

def AEx.then (K : AS → Prop) (Q : AEx → AS → Prop) : AEx → AS → Prop
  | .normal, s => K s
  | e, s => Q e s

theorem AW.seq {c d : Code} (H : AW rr P n0 n c (AEx.then (AW rr P n0 n d Q) Q) s) : AW rr P n0 n (.seq c d) Q s := by
  intro ρ w0 w b a k cs hs hb
  obtain ⟨e, s1, ρ1, a1, w1, q1, g1, r1, h1⟩ := H ρ w0 w b a (.code d :: k) cs hs hb
  cases e with
  | normal =>
    obtain ⟨e, s2, ρ2, a2, w2, q2, g2, r2, h2⟩ := q1 ρ1 w0 w1 b a1 k cs r1 hb
    exact ⟨e, s2, ρ2, a2, w2, q2, g1.trans g2, r2, .of_steps (.head stepR_seq h1) h2⟩
  | exit id => exact ⟨_, s1, ρ1, a1, w1, q1, g1, r1, .of_steps (.one stepR_seq) (.pass (x := .code d) rfl (by simp) h1)⟩
  | goto id => exact ⟨_, s1, ρ1, a1, w1, q1, g1, r1, .of_steps (.one stepR_seq) (.pass (x := .code d) rfl (by simp) h1)⟩
  | ret => exact ⟨_, s1, ρ1, a1, w1, q1, g1, r1, .of_steps (.one stepR_seq) (.pass (x := .code d) rfl (by simp) h1)⟩

theorem AW.cond {i : Nat} {x y : Code} {t : Bool} (hc : look? s.t i = some (.bool t)) (H : AW rr P n0 n (bif t then x else y) Q s) : AW rr P n0 n (.cond (.tmp i) x y) Q s := by
  intro ρ w0 w b a k cs hs hb
  obtain ⟨e, s1, ρ1, a1, w1, q1, g1, r1, h1⟩ := H ρ w0 w b a k cs hs hb
  have hv := hs.t.known i _ hc
  have he : a.eval (.tmp i) = .bool t := by
    generalize hy : a.tmps.getD i undef = y at hv
    cases hv
    simpa [Act.eval] using hy
  have hst := stepR_cond (P := P) (b := b) (k := k) (cs := cs) (w := w) (x := x) (y := y) he
  refine ⟨e, s1, ρ1, a1, w1, q1, g1, r1, .of_steps (.one hst) ?_⟩
  cases t <;> exact h1

def AEx.inBlock (id : Nat) (Q : AEx → AS → Prop) : AEx → AS → Prop
  | .exit id', s => if id' = id then Q .normal s else Q (.exit id') s
  | e, s => Q e s

theorem AW.block {id : Nat} {c : Code} (H : AW rr P n0 n c (AEx.inBlock id Q) s) : AW rr P n0 n (.block id c) Q s := by
  intro ρ w0 w b a k cs hs hb
  obtain ⟨e, s1, ρ1, a1, w1, q1, g1, r1, h1⟩ := H ρ w0 w b a (.inBlock id :: k) cs hs hb
  cases e with
  | normal => exact ⟨.normal, s1, ρ1, a1, w1, q1, g1, r1, .head stepR_block (h1.trans (.one stepR_inBlock))⟩
  | exit id' =>
    obtain ⟨k1, hk1, hst⟩ := h1
    by_cases hid : id' = id
    · subst hid
      simp only [AEx.inBlock, if_true] at q1
      refine ⟨.normal, s1, ρ1, a1, w1, q1, g1, r1, .head stepR_block (hst.trans (.one (stepR_exit ?_)))⟩
      rw [hk1]; simp [exitTo]
    · simp only [AEx.inBlock, hid, if_false] at q1
      refine ⟨.exit id', s1, ρ1, a1, w1, q1, g1, r1, k1, ?_, .head stepR_block hst⟩
      rw [hk1]
      have : (id == id') = false := by simp; exact fun h => hid h.symm
      simp [exitTo, this]
  | goto l =>
    obtain ⟨k1, hk1, hst⟩ := h1
    exact ⟨.goto l, s1, ρ1, a1, w1, q1, g1, r1, k1, by rw [hk1]; rfl, .head stepR_block hst⟩
  | ret =>
    obtain ⟨k1, hst⟩ := h1
    exact ⟨.ret, s1, ρ1, a1, w1, q1, g1, r1, k1, .head stepR_block hst⟩

/-- A loop, by what holds at each round's head, and a measure. -/
theorem AW.loop {c : Code} (I : Nat → AS → Prop) (m : Nat) (h0 : I m s) (round : ∀ m s, I m s → AW rr P n0 n c (AEx.then (fun s' => ∃ m', m' < m ∧ I m' s') Q) s) : AW rr P n0 n (.loop c) Q s := by
  intro ρ w0 w b a k cs hs hb
  have key : ∀ m s ρ a w, I m s → SR P ρ w0 n s a w → ∃ e s' ρ' a' w', Q e s' ∧ Agree n0 ρ ρ' ∧ SR P ρ' w0 n s' a' w' ∧ ArrA P (lone (b.atR a (.code c :: .inLoop c :: k)) cs w) b k cs e a' w' := by
    intro m
    induction m using Nat.strongRecOn with
    | _ m ih =>
      intro s ρ a w hI hs
      obtain ⟨e, s1, ρ1, a1, w1, q1, g1, r1, h1⟩ := round m s hI ρ w0 w b a (.inLoop c :: k) cs hs hb
      cases e with
      | normal =>
        obtain ⟨m', hm, hI'⟩ := q1
        obtain ⟨e, s2, ρ2, a2, w2, q2, g2, r2, h2⟩ := ih m' hm s1 ρ1 a1 w1 hI' r1
        exact ⟨e, s2, ρ2, a2, w2, q2, g1.trans g2, r2, .of_steps (Steps.trans h1 (.one stepR_inLoop)) h2⟩
      | exit id => exact ⟨_, s1, ρ1, a1, w1, q1, g1, r1, .pass (x := .inLoop c) rfl (by simp) h1⟩
      | goto l => exact ⟨_, s1, ρ1, a1, w1, q1, g1, r1, .pass (x := .inLoop c) rfl (by simp) h1⟩
      | ret => exact ⟨_, s1, ρ1, a1, w1, q1, g1, r1, .pass (x := .inLoop c) rfl (by simp) h1⟩
  obtain ⟨e, s1, ρ1, a1, w1, q1, g1, r1, h1⟩ := key m s ρ a w h0 hs
  exact ⟨e, s1, ρ1, a1, w1, q1, g1, r1, .of_steps (.one stepR_loop) h1⟩

/-! What is known may be less. -/

def Ent (P : Program) (n0 n : Nat) (s s' : AS) : Prop :=
  ∀ (ρ : Ren) (w0 w : World) (a : Act), SR P ρ w0 n s a w → ∃ ρ', Agree n0 ρ ρ' ∧ SR P ρ' w0 n s' a w

theorem AW.ent {c : Code} {s' : AS} (he : Ent P n0 n s s') (H : AW rr P n0 n c Q s') : AW rr P n0 n c Q s := by
  intro ρ w0 w b a k cs hs hb
  obtain ⟨ρ1, g1, r1⟩ := he ρ w0 w a hs
  obtain ⟨e, s2, ρ2, a2, w2, q2, g2, r2, h2⟩ := H ρ1 w0 w b a k cs r1 hb
  exact ⟨e, s2, ρ2, a2, w2, q2, g1.trans g2, r2, h2⟩

theorem AW.entPost {c : Code} (H : AW rr P n0 n c (fun e s => ∃ s', Ent P n0 n s s' ∧ Q e s') s) : AW rr P n0 n c Q s := by
  intro ρ w0 w b a k cs hs hb
  obtain ⟨e, s1, ρ1, a1, w1, ⟨s2, he, q⟩, g1, r1, h1⟩ := H ρ w0 w b a k cs hs hb
  obtain ⟨ρ2, g2, r2⟩ := he ρ1 w0 w1 a1 r1
  exact ⟨e, s2, ρ2, a1, w1, q, g1.trans g2, r2, h1⟩

/-- Slots are forgotten. -/
theorem Ent.slots {t t' : PT} {h : AHeap} {d : List Nat} (ht : ∀ i v, look? t' i = some v → look? t i = some v) : Ent P n0 n ⟨t, h, d⟩ ⟨t', h, d⟩ :=
  fun ρ _ _ _ hs => ⟨ρ, .refl _ _, ⟨⟨hs.t.size, fun i v hv => hs.t.known i v (ht i v hv)⟩, hs.h, hs.d⟩⟩

end Go.Am

/-
  The logic: operations, regions, functions; a heap is cut down to what is used.
-/
namespace Go.Am
open Go Go.RowKit

variable {rr : Bool}

variable {P : Program} {n0 n : Nat} {Q : AEx → AS → Prop} {s : AS}

/-- The slots that an operation looks at. -/
def OT (ρ : Ren) (t : PT) (o : Oper) (a : Act) : Prop := ∀ (i : Nat) (v : Value), Operand.tmp i ∈ o.op.operands.toList → look? t i = some v → VR ρ v (a.tmps.getD i undef)

theorem OT.of {ρ : Ren} {t : PT} {o : Oper} {a : Act} (H : PR' ρ n t a.tmps) : OT ρ t o a := fun i v _ hv => H.known i v hv

theorem OT.sim {ρ : Ren} {w0 w : World} {h : AHeap} (H : HR P ρ w0 h w) {t : PT} {a : Act} {o : Oper} (HT : OT ρ t o a) (ho : okOper P o = true) (hk : knows t o = true) :
    ∀ x ∈ o.op.operands.toList, VR ρ (pev t x) (a.eval x) := by
  have hall : o.op.operands.toList.all (okOperand P) = true := by
    unfold okOper at ho
    split at ho
    · cases ho
    · cases ho
    · exact ho
  intro x hx
  have hok := List.all_eq_true.1 hall x hx
  have hkn := List.all_eq_true.1 hk x hx
  cases x with
  | tmp i =>
    simp only [Option.isSome_iff_exists] at hkn
    obtain ⟨v, hv⟩ := hkn
    have := HT i v hx hv
    simpa [pev, hv, Act.eval] using this
  | const v => exact plainV_sim hok
  | global g =>
    obtain ⟨p, hp, hb, hs⟩ := H.glob g (by simpa [okOperand, Nat.blt_eq] using hok)
    have := VR.ptr (ρ := ρ) 0 hp
    rw [hb, hs] at this
    simpa [Act.eval, pev] using this
  | func g => exact .func _ _ _ _ _ _ (.func g) rfl (fun i x y h => by simp at h) rfl (fun i x y h => by simp at h)

/-- One operation that runs: what it yields and leaves. -/
def OpK (P : Program) (o : Oper) (t : PT) (h : AHeap) (K : Value → AHeap → Prop) : Prop :=
  ∀ (ρ : Ren) (w0 w : World) (a : Act), HR P ρ w0 h w → OT ρ t o a →
    ∀ (all : Array Oper) (k : Nat) (rest : List Nat) (b : Frame) (todo : List Item) (cs : List Frame), all[k]? = some o → Region.wanted o (yielded all a.tmps) = true → b.kind = .normal →
    ∃ ρ' v v' h' w', K v h' ∧ Sub ρ ρ' ∧ HR P ρ' w0 h' w' ∧ VR ρ' v v' ∧
      Steps P (lone (b.atR a (.inRegion all (k :: rest) :: todo)) cs w) (lone (b.atR (a.put o.dst v') (.inRegion all rest :: todo)) cs w')

theorem OpK.mono {o : Oper} {t : PT} {h : AHeap} {K K' : Value → AHeap → Prop} (H : OpK P o t h K) (hk : ∀ v h', K v h' → K' v h') : OpK P o t h K' :=
  fun ρ w0 w a Hh HT all k rest b todo cs ho hw hb => let ⟨ρ', v, v', h', w', q, r⟩ := H ρ w0 w a Hh HT all k rest b todo cs ho hw hb; ⟨ρ', v, v', h', w', hk v h' q, r⟩

theorem OpK.value {o : Oper} {t : PT} {h h' : AHeap} {v : Value} {K : Value → AHeap → Prop} (hop : aop P (pev t) h o = some (.value v h')) (hk : knows t o = true) (hK : K v h') : OpK P o t h K := by
  intro ρ w0 w a H HT all k rest b todo cs ho hw _
  have hok := aop_okOper hop
  obtain ⟨ρ', v', nx, w', hr, hn, hs, H', hv⟩ := aop_value H hop (fun ho => HT.sim H ho hk)
  exact ⟨ρ', v, v', h', w', hK, hs, H', hv, .one (stepR_value ho hw (okOper_defer hok) hr hn)⟩

theorem OpK.call (Kp : POk P) {o : Oper} {t : PT} {h : AHeap} {K : Value → AHeap → Prop} {f : FuncId} {args : List Value} (hop : aop P (pev t) h o = some (.enter f args h)) (hk : knows t o = true) {fn : Func}
    (hf : P.funcs[f]? = some fn) (hb : fn.body.isSome = true) (H : ACalls P f args h K) : OpK P o t h K := by
  intro ρ w0 w a Hh HT all k rest b todo cs ho hw hbk
  have hok := aop_okOper hop
  obtain ⟨_, args', hl, hexec⟩ := aeff_enter (P := P) (w := w) (aop_enter hop) (HT.sim Hh hok hk)
  have hex := hexec fn hf hb (Kp.names f fn hf)
  obtain ⟨e, w1, fr, ⟨ρ', v, v', h', hK, rfl, hs, H', hv⟩, hcomes, _, hleave⟩ := H ρ w0 w args' Hh hl (b.atR a (.inRegion all (k :: rest) :: todo) :: cs)
  refine ⟨ρ', v, v', h', w1, hK, hs, H', hv, .head (stepR_enter ho hw (okOper_defer hok) hex) (Steps.trans hcomes (.one ?_))⟩
  have hfin : (b.atR a (.inRegion all (k :: rest) :: todo)).finish v' = b.atR (a.put o.dst v') (.inRegion all rest :: todo) := by
    rw [Frame.finish_atR, ho]; rfl
  rw [← hfin]
  exact step_leave_returned hleave

/-- Is an operation carried out? -/
def pwanted (all : Array Oper) (t : PT) (o : Oper) : Option Bool :=
  match o.guard with
  | none => some true
  | some (j, want) =>
    match (all.toList[j]?).bind (·.dst) with
    | some d =>
      match look? t d with
      | some (.bool b) => some (b == want)
      | some (.tuple _) => some false
      | _ => none
    | none => none

theorem pwanted_sim {ρ : Ren} {t : PT} {c : Array Value} {all : Array Oper} {o : Oper} {r : Bool} (H : PR' ρ n t c) (hd : ∀ (j : Nat) (o' : Oper), all[j]? = some o' → ∀ d, o'.dst = some d → d < n) (hp : pwanted all t o = some r) :
    Region.wanted o (yielded all c) = r := by
  unfold pwanted at hp
  unfold Region.wanted
  split at hp
  · rename_i hg
    rw [hg]; cases hp; rfl
  · rename_i j want hg
    rw [hg]
    simp only
    split at hp
    · rename_i d hjd
      have hjd' : ((all[j]?).bind (·.dst) : Option Nat) = some d := by simpa using hjd
      have hlt : d < n := by
        cases ho : all[j]? with
        | none => rw [ho] at hjd'; cases hjd'
        | some o' => rw [ho] at hjd'; exact hd j o' ho d hjd'
      have e2 : c[d]? = some (c.getD d undef) := by
        have : d < c.size := by rw [H.size]; exact hlt
        simp [this]
      have hy : yielded all c j = match c.getD d undef with | .bool b => some b | _ => none := by
        unfold yielded
        rw [hjd']
        simp only [Option.bind_some, e2]
        cases c.getD d undef <;> rfl
      rw [hy]
      split at hp
      · rename_i b hb
        have hv := H.known d _ hb
        generalize c.getD d undef = y at hv
        cases hv
        cases hp
        simp
      · rename_i u hb
        have hv := H.known d _ hb
        generalize c.getD d undef = y at hv
        cases hv
        cases hp
        rfl
      · cases hp
    · cases hp

/-- Operations one behind the other. -/
def AOps (P : Program) (n : Nat) (all : Array Oper) (K : AS → Prop) : List Oper → AS → Prop
  | [], s => K s
  | o :: r, s =>
    (pwanted all s.t o = some true ∧ OpK P o s.t s.h (fun v h' => AOps P n all K r ⟨upd s.t o.dst v, h', s.d⟩)) ∨
    (pwanted all s.t o = some false ∧ AOps P n all K r ⟨upd s.t o.dst undef, s.h, s.d⟩)

def dstOk (n : Nat) (all : Array Oper) : Bool := all.toList.all fun o => match o.dst with | some d => Nat.blt d n | none => true

theorem dstOk_spec {all : Array Oper} (h : dstOk n all = true) : ∀ (j : Nat) (o : Oper), all[j]? = some o → ∀ d, o.dst = some d → d < n := by
  intro j o ho d hd
  have := List.all_eq_true.1 h o (Array.mem_toList_iff.2 (Array.mem_of_getElem? ho))
  rw [hd] at this
  simpa [Nat.blt_eq] using this

theorem AOps.sound {all : Array Oper} (hd : dstOk n all = true) {K : AS → Prop} (b : Frame) (hbk : b.kind = .normal) (todo : List Item) (cs : List Frame) : ∀ (rest : List Oper) (k : Nat) (s : AS) (ρ : Ren) (w0 w : World) (a : Act),
    AOps P n all K rest s → rest = all.toList.drop k → k ≤ all.size → SR P ρ w0 n s a w →
    ∃ s' ρ' a' w', K s' ∧ Sub ρ ρ' ∧ SR P ρ' w0 n s' a' w' ∧ Steps P (lone (b.atR a (.inRegion all (List.range' k (all.size - k)) :: todo)) cs w) (lone (b.atR a' todo) cs w') := by
  have hd' := dstOk_spec hd
  intro rest
  induction rest with
  | nil =>
    intro k s ρ w0 w a H hr hk hs
    have hlen : all.size ≤ k := by simpa using List.drop_eq_nil_iff.1 hr.symm
    have : all.size - k = 0 := by omega
    rw [this]
    exact ⟨s, ρ, a, w, H, .refl ρ, hs, .one stepR_region_end⟩
  | cons o rest ih =>
    intro k s ρ w0 w a H hr hk hs
    obtain ⟨hlt, ho, hrest⟩ := drop_cons hr.symm
    rw [range'_cons hlt]
    rcases H with ⟨hw, H⟩ | ⟨hw, H⟩
    · have hw' := pwanted_sim hs.t hd' hw
      obtain ⟨ρ1, v, v', h1, w1, hK, hs1, H1, hv, hst⟩ := H ρ w0 w a hs.h (OT.of hs.t) all k (List.range' (k + 1) (all.size - (k + 1))) b todo cs ho hw' hbk
      have hdd : (a.put o.dst v').defers = a.defers := by cases o.dst <;> rfl
      obtain ⟨s2, ρ2, a2, w2, hK2, hs2, H2, hst2⟩ := ih (k + 1) _ ρ1 w0 w1 (a.put o.dst v') hK hrest hlt ⟨(hs.t.mono hs1).put (fun i hi => hd' k o ho i hi) hv, H1, by rw [hdd]; exact hs.d.mono hs1⟩
      exact ⟨s2, ρ2, a2, w2, hK2, hs1.trans hs2, H2, hst.trans hst2⟩
    · have hw' := pwanted_sim hs.t hd' hw
      have hstep := stepR_op_skip (P := P) (b := b) (a := a) (k := todo) (cs := cs) (w := w) (ops := all) (i := k) (rest := List.range' (k + 1) (all.size - (k + 1))) (by simp [ho, hw'])
      simp only [ho, Option.bind_some] at hstep
      have hdd : (a.put o.dst undef).defers = a.defers := by cases o.dst <;> rfl
      obtain ⟨s2, ρ2, a2, w2, hK2, hs2, H2, hst2⟩ := ih (k + 1) _ ρ w0 w (a.put o.dst undef) H hrest hlt ⟨hs.t.put (fun i hi => hd' k o ho i hi) (VR.undef ρ), hs.h, by rw [hdd]; exact hs.d⟩
      exact ⟨s2, ρ2, a2, w2, hK2, hs2, H2, .head hstep hst2⟩

theorem AW.region {id : Nat} {ops : Array Oper} (hd : dstOk n ops = true) (H : AOps P n ops (Q .normal) ops.toList s) : AW rr P n0 n (.region id ops false) Q s := by
  intro ρ w0 w b a k cs hs hb
  obtain ⟨s1, ρ1, a1, w1, hK, hs1, H1, hst⟩ := AOps.sound hd b hb.1 k cs ops.toList 0 s ρ w0 w a H (by simp) (Nat.zero_le _) hs
  refine ⟨.normal, s1, ρ1, a1, w1, hK, hs1.agree n0, H1, .head stepR_region ?_⟩
  simpa [List.range_eq_range'] using hst

theorem AOps.val {all : Array Oper} {K : AS → Prop} {o : Oper} {r : List Oper} {t : PT} {h h' : AHeap} {d : List Nat} {v : Value} (hw : pwanted all t o = some true) (hk : knows t o = true) (hop : aop P (pev t) h o = some (.value v h'))
    (next : AOps P n all K r ⟨upd t o.dst v, h', d⟩) : AOps P n all K (o :: r) ⟨t, h, d⟩ := .inl ⟨hw, .value hop hk next⟩

theorem AOps.off {all : Array Oper} {K : AS → Prop} {o : Oper} {r : List Oper} {t : PT} {h : AHeap} {d : List Nat} (hw : pwanted all t o = some false)
    (next : AOps P n all K r ⟨upd t o.dst undef, h, d⟩) : AOps P n all K (o :: r) ⟨t, h, d⟩ := .inr ⟨hw, next⟩

theorem AOps.call (Kp : POk P) {all : Array Oper} {K : AS → Prop} {o : Oper} {r : List Oper} {t : PT} {h : AHeap} {d : List Nat} {f : FuncId} {args : List Value} {fn : Func} (hw : pwanted all t o = some true) (hk : knows t o = true)
    (hop : aop P (pev t) h o = some (.enter f args h)) (hf : P.funcs[f]? = some fn) (hb : fn.body.isSome = true) (H : ACalls P f args h (fun v h' => AOps P n all K r ⟨upd t o.dst v, h', d⟩)) :
    AOps P n all K (o :: r) ⟨t, h, d⟩ := .inl ⟨hw, .call Kp hop hk hf hb H⟩

/-! Functions. -/

def argsPT : Nat → List Value → PT
  | _, [] => []
  | i, v :: r => (i, v) :: argsPT (i + 1) r

theorem argsPT_look : ∀ (vs : List Value) (i j : Nat) (v : Value), look? (argsPT i vs) j = some v → i ≤ j ∧ vs[j - i]? = some v
  | [], i, j, v, h => by cases h
  | x :: vs, i, j, v, h => by
    simp only [argsPT, look?] at h
    by_cases hji : j = i
    · subst hji
      simp at h
      subst h
      simp
    · rw [beq_no hji] at h
      simp only [cond_false] at h
      obtain ⟨h1, h2⟩ := argsPT_look vs (i + 1) j v h
      refine ⟨by omega, ?_⟩
      rw [show j - i = (j - (i + 1)) + 1 from by omega]
      exact h2

def prv (P : Program) (s : AS) : ResultVar → Option Value
  | .tmp i => look? s.t i
  | .cell a ty => (look? s.t a).bind (aload P s.h ty)

def presults (P : Program) (fn : Func) (s : AS) : Option Value :=
  match fn.results.toList.mapM (prv P s) with
  | some [v] => some v
  | some vs => some (.tuple vs.toArray)
  | none => none

theorem prv_sim {ρ : Ren} {w0 w : World} {a : Act} (H : SR P ρ w0 n s a w) {x : ResultVar} {v : Value} (hf : prv P s x = some v) : ∃ v', (rvC a.tmps x).run P w = .ok v' w ∧ VR ρ v v' := by
  cases x with
  | tmp i => exact ⟨_, rfl, H.t.known i v hf⟩
  | cell ad ty =>
    simp only [prv, Option.bind_eq_some_iff] at hf
    obtain ⟨x, hx, hl⟩ := hf
    have hv := H.t.known ad x hx
    obtain ⟨v', h3, h4⟩ := aload_sim H.h hl hv
    have hp : ∃ ad', a.tmps.getD ad undef = .pointer (some ad') := by
      unfold aload at hl
      split at hl
      · generalize a.tmps.getD ad undef = y at hv
        cases hv
        exact ⟨_, rfl⟩
      · cases hl
    obtain ⟨ad', had⟩ := hp
    rw [had] at h3
    simp only [Instr.loadAt, Instr.sureAddr, Sem.run_bind, Sem.run_pure, Result.andThen_ok] at h3
    exact ⟨v', by simp only [rvC, Sem.run_bind, had, asAddr, Sem.run_pure, Result.andThen_ok, h3], h4⟩

theorem prvs_sim {ρ : Ren} {w0 w : World} {a : Act} (H : SR P ρ w0 n s a w) : ∀ (l : List ResultVar) (vs : List Value), l.mapM (prv P s) = some vs → ∃ vs', (l.mapM (rvC a.tmps)).run P w = .ok vs' w ∧ LR ρ vs vs'
  | [], vs, hv => by simp at hv; subst hv; exact ⟨[], rfl, LR.nil ρ⟩
  | x :: l, vs, hv => by
    simp only [List.mapM_cons, Option.bind_eq_bind, Option.pure_def] at hv
    cases hx : prv P s x with
    | none => simp [hx] at hv
    | some v =>
      cases hr : l.mapM (prv P s) with
      | none => simp [hx, hr] at hv
      | some rest =>
        simp only [hx, hr, Option.bind_some, Option.some.injEq] at hv
        subst hv
        obtain ⟨v', h3, h4⟩ := prv_sim H hx
        obtain ⟨vs', h1, h2⟩ := prvs_sim H l rest hr
        exact ⟨v' :: vs', by simp only [List.mapM_cons, Sem.run_bind, Sem.run_pure, Result.andThen_ok, h3, h1], LR.cons h4 h2⟩

theorem presults_sim {ρ : Ren} {w0 w : World} {a : Act} (H : SR P ρ w0 n s a w) {fn : Func} {v : Value} (hf : presults P fn s = some v) : ∃ v', (results fn a.tmps).run P w = .ok v' w ∧ VR ρ v v' := by
  unfold presults at hf
  cases hm : fn.results.toList.mapM (prv P s) with
  | none => simp [hm] at hf
  | some vs =>
    obtain ⟨vs', h1, h2⟩ := prvs_sim H _ _ hm
    have hrun : (fn.results.mapM (rvC a.tmps)).run P w = .ok vs'.toArray w := by
      rw [Array.mapM_eq_mapM_toList]
      simp only [Sem.run_map, h1, Result.andThen_ok]
    have hres : (results fn a.tmps).run P w = .ok (if hh : vs'.toArray.size = 1 then vs'.toArray[0] else .tuple vs'.toArray) w := by
      rw [results_eq]
      simp only [Sem.run_bind, hrun, Result.andThen_ok, Sem.run_pure]
    rw [hm] at hf
    match vs, hf, h2 with
    | [v1], hf, h2 =>
      simp only [Option.some.injEq] at hf
      subst hf
      obtain ⟨y, ys, rfl, hv, hs⟩ := h2.uncons
      have := hs.nil_left
      subst this
      exact ⟨y, by rw [hres]; simp, hv⟩
    | [], hf, h2 =>
      simp only [Option.some.injEq] at hf
      subst hf
      have := h2.nil_left
      subst this
      exact ⟨_, by rw [hres]; simp, VR.tuple_of (LR.nil ρ)⟩
    | a :: b :: r, hf, h2 =>
      simp only [Option.some.injEq] at hf
      subst hf
      have hl : ¬ vs'.toArray.size = 1 := by
        have := h2.1
        simp at this ⊢
        omega
      exact ⟨_, by rw [hres, dif_neg hl], VR.tuple_of h2⟩

/-- What stands at a function's end. -/
def FnEnd (P : Program) (fn : Func) (R : Value → AHeap → Prop) : AEx → AS → Prop
  | .normal, s | .ret, s => s.d = [] ∧ ∃ v, presults P fn s = some v ∧ R v s.h
  | _, _ => False

theorem ACalls.of_body {f : FuncId} {fn : Func} {c : Code} {args : List Value} {h : AHeap} {R : Value → AHeap → Prop} (hf : P.funcs[f]? = some fn) (hb : fn.body = some c) (hn : args.length ≤ fn.ntmps)
    (H : AW true P h.n fn.ntmps c (FnEnd P fn R) ⟨argsPT 0 args, h, []⟩) : ACalls P f args h R := by
  intro ρ w0 w args' Hh hl cs
  let b : Frame := { (default : Frame) with fn := f, kind := .normal, roundOf := none }
  have henter : Frame.enter P f args' .normal = b.atR { tmps := args' ++ Array.replicate (fn.ntmps - args'.size) undef, defers := [] } [.code c] := by
    simp [Frame.enter, Frame.atR, hf, hb, b]
  have hsz : args.length = args'.size := by simpa using hl.1
  have hs : SR P ρ w0 fn.ntmps ⟨argsPT 0 args, h, []⟩ { tmps := args' ++ Array.replicate (fn.ntmps - args'.size) undef, defers := [] } w := by
    refine ⟨⟨by simp; omega, fun i v hv => ?_⟩, Hh, .nil⟩
    obtain ⟨_, h2⟩ := argsPT_look args 0 i v hv
    simp only [Nat.sub_zero] at h2
    obtain ⟨y, hy, hvr⟩ := hl.get h2
    have e : (args' ++ Array.replicate (fn.ntmps - args'.size) undef).getD i undef = y := by
      have hi : i < args'.size := by have := (List.getElem?_eq_some_iff.1 h2).1; omega
      simp only [Array.getD_eq_getD_getElem?]
      rw [Array.getElem?_append_left hi]
      simp at hy
      simp [hy]
    rw [e]; exact hvr
  obtain ⟨e, s1, ρ1, a1, w1, q, g1, r1, harr⟩ := H ρ w0 w b _ [] cs hs ⟨rfl, fun _ => rfl⟩
  rw [← henter] at harr
  have sub : Sub ρ ρ1 := fun b p hp => g1 b p (Hh.lt hp) hp
  have fin : (s1.d = [] ∧ ∃ v, presults P fn s1 = some v ∧ R v s1.h) → ∀ fr, Steps P (lone (Frame.enter P f args' .normal) cs w) (lone fr cs w1) → fr.fn = f → fr.mode = .returning → fr.kind = .normal → fr.tmps = a1.tmps → fr.defers = a1.defers →
      ∃ e w' fr, (∃ ρ' v v' h', R v h' ∧ e = .returned v' ∧ Sub ρ ρ' ∧ HR P ρ' w0 h' w' ∧ VR ρ' v v') ∧ Comes P (lone (Frame.enter P f args' .normal) cs w) (lone fr cs w') e ∧ fr.fn = f ∧ fr.leaving P w' e := by
    rintro ⟨hd, v, hv, hR⟩ fr hst h1 h2 h3 h4 h5
    obtain ⟨v', hr, hvr⟩ := presults_sim r1 hv
    have hdn : fr.defers = [] := by
      have := r1.d
      rw [hd] at this
      rw [h5]
      generalize a1.defers = x at this
      cases this
      rfl
    exact ⟨.returned v', w1, fr, ⟨ρ1, v, v', s1.h, hR, rfl, sub, r1.h, hvr⟩, hst, h1, h2, hdn, h3, fn, by rw [h1]; exact hf, by rw [h4]; exact hr⟩
  cases e with
  | normal =>
    refine fin q _ (Steps.trans harr (.one (stepR_end ?_))) ?_ rfl ?_ rfl rfl <;> rfl
  | ret =>
    obtain ⟨k1, hst⟩ := harr
    refine fin q _ (hst.trans (.one (stepR_ret ?_))) ?_ rfl ?_ rfl rfl <;> rfl
  | exit id => exact q.elim
  | goto l => exact q.elim

/-- A contract is a call of the model's. -/
theorem ACalls.calls {f : FuncId} {args : List Value} {h : AHeap} {R : Value → AHeap → Prop} {ρ : Ren} {w0 w : World} {args' : Array Value} (H : ACalls P f args h R) (Hh : HR P ρ w0 h w) (hl : LR ρ args args'.toList) :
    Calls P f args' w fun e w' => ∃ ρ' v v' h', R v h' ∧ e = .returned v' ∧ Sub ρ ρ' ∧ HR P ρ' w0 h' w' ∧ VR ρ' v v' := H ρ w0 w args' Hh hl

end Go.Am

/-
  The logic: heaps as a base and blocks of one's own; blocks that are no longer used are dropped.
-/
namespace Go.Am
open Go Go.RowKit

variable {P : Program} {n0 n : Nat} {Q : AEx → AS → Prop} {s : AS}

/-! Values that name no block from n on. -/

inductive FnIn (n : Nat) : Fn → Prop where
  | func (f : FuncId) : FnIn n (.func f)
  | yield {l : Nat} : l < n → FnIn n (.yield l)

inductive In (n : Nat) : Value → Prop where
  | bool (b : Bool) : In n (.bool b)
  | int (k : IntKind) (i : Int) : In n (.int k i)
  | string (s : ByteArray) : In n (.string s)
  | nilFunc : In n .nilFunc
  | nilIface : In n .nilIface
  | pnil : In n (.pointer none)
  | ptr {b : Nat} (i : Nat) : b < n → In n (.pointer (some ⟨b, i, none⟩))
  | snil (k c : Nat) : In n (.slice none k c)
  | slice {b : Nat} (i k c : Nat) : b < n → In n (.slice (some ⟨b, i, none⟩) k c)
  | agg (xs : Array Value) : (∀ (i : Nat) (x : Value), xs[i]? = some x → In n x) → In n (.agg xs)
  | tuple (xs : Array Value) : (∀ (i : Nat) (x : Value), xs[i]? = some x → In n x) → In n (.tuple xs)
  | func (f : Fn) (xs us : Array Value) : FnIn n f → (∀ (i : Nat) (x : Value), xs[i]? = some x → In n x) → (∀ (i : Nat) (x : Value), us[i]? = some x → In n x) → In n (.func f xs us)

theorem ren_lt {ρ : Ren} {b : Nat} {p : Pl} (h : ρ[b]? = some p) : b < ρ.length := (List.getElem?_eq_some_iff.1 h).1

theorem pair_of_size {xs ys : Array Value} (h : xs.size = ys.size) {i : Nat} {x : Value} (hx : xs[i]? = some x) : ∃ y, ys[i]? = some y := by
  have : i < ys.size := by
    rw [← h]; exact (Array.getElem?_eq_some_iff.1 hx).1
  exact ⟨ys[i], by simp [this]⟩

theorem VR.inn {ρ : Ren} {x y : Value} (h : VR ρ x y) : In ρ.length x := by
  induction h with
  | bool b => exact .bool b
  | int k i => exact .int k i
  | string s => exact .string s
  | nilFunc => exact .nilFunc
  | nilIface => exact .nilIface
  | pnil => exact .pnil
  | ptr i h => exact .ptr i (ren_lt h)
  | snil k c h => exact .snil k c
  | slice i k c h hc => exact .slice i k c (ren_lt h)
  | opn i k c h hn hz => exact .slice i k big (ren_lt h)
  | void a c k hk => exact .snil 0 k
  | agg xs ys h _ ih => exact .agg xs fun i x hx => let ⟨y, hy⟩ := pair_of_size h hx; ih i x y hx hy
  | tuple xs ys h _ ih => exact .tuple xs fun i x hx => let ⟨y, hy⟩ := pair_of_size h hx; ih i x y hx hy
  | func f g xs ys us vs hf h1 _ h2 _ ih1 ih2 =>
    refine .func f xs us ?_ (fun i x hx => let ⟨y, hy⟩ := pair_of_size h1 hx; ih1 i x y hx hy) (fun i x hx => let ⟨y, hy⟩ := pair_of_size h2 hx; ih2 i x y hx hy)
    cases hf with
    | func f => exact .func f
    | yield h => exact .yield (ren_lt h)

theorem Sub.back {ρ ρ' : Ren} (hs : Sub ρ ρ') {b : Nat} {p : Pl} (hb : b < ρ.length) (hp : ρ'[b]? = some p) : ρ[b]? = some p := by
  have h1 : ρ[b]? = some ρ[b] := by simp [hb]
  rw [hs b _ h1] at hp
  rw [h1, hp]

theorem VR.back {ρ ρ' : Ren} (hs : Sub ρ ρ') {x y : Value} (h : VR ρ' x y) (hi : In ρ.length x) : VR ρ x y := by
  induction h with
  | bool b => exact .bool b
  | int k i => exact .int k i
  | string s => exact .string s
  | nilFunc => exact .nilFunc
  | nilIface => exact .nilIface
  | pnil => exact .pnil
  | ptr i h => cases hi with | ptr _ hb => exact .ptr i (hs.back hb h)
  | snil k c h => exact .snil k c h
  | slice i k c h hc => cases hi with | slice _ _ _ hb => exact .slice i k c (hs.back hb h) hc
  | opn i k c h hn hz => cases hi with | slice _ _ _ hb => exact .opn i k c (hs.back hb h) hn hz
  | void a c k hk => exact .void a c k hk
  | agg xs ys h _ ih => cases hi with | agg _ hx => exact .agg xs ys h fun i x y h1 h2 => ih i x y h1 h2 (hx i x h1)
  | tuple xs ys h _ ih => cases hi with | tuple _ hx => exact .tuple xs ys h fun i x y h1 h2 => ih i x y h1 h2 (hx i x h1)
  | func f g xs ys us vs hf h1 _ h2 _ ih1 ih2 =>
    cases hi with
    | func _ _ _ hfi hx hu =>
      refine .func f g xs ys us vs ?_ h1 (fun i x y p q => ih1 i x y p q (hx i x p)) h2 (fun i x y p q => ih2 i x y p q (hu i x p))
      cases hf with
      | func f => exact .func f
      | yield h => cases hfi with | yield hb => exact .yield (hs.back hb h)

/-! Bases. -/

structure Base (P : Program) (h : AHeap) : Prop where
  gone : ∀ b, h.n ≤ b → h.get b = .dead
  cells : ∀ (b : Nat) (c : List Value), (h.get b).row = some c → ∀ x ∈ c, In h.n x
  loops : ∀ (b : Nat) (l : ALoop), h.get b = .loop l → (∀ i, In h.n (l.tmps.get i)) ∧ l.defers < h.n
  lps : ∀ (b : Nat) (l : PLoop), h.get b = .lp l → ∀ i v, lookP l.t i = some v → In h.n v
  glob : P.globals.size ≤ h.n

theorem AObj.row_cells {o : AObj} {c : List Value} (h : o.row = some c) : (∃ e, o = .cells c e) ∨ o = .ro c := by
  cases o <;> simp [AObj.row] at h <;> subst h <;> simp

theorem Row.inn {ρ : Ren} {p : Pl} {c : List Value} {w : World} (h : Row ρ p c w) : ∀ x ∈ c, In ρ.length x := by
  obtain ⟨cc, el, fz, _, _, _, _, h5⟩ := h
  intro x hx
  obtain ⟨i, hi, rfl⟩ := List.getElem_of_mem hx
  obtain ⟨y, _, hv⟩ := h5 i c[i] (by simp [hi])
  exact hv.inn

theorem RowR.inn {ρ : Ren} {p : Pl} {c : List Value} {w : World} (h : RowR ρ p c w) : ∀ x ∈ c, In ρ.length x := by
  obtain ⟨_, _, _, _, _, h5⟩ := h
  intro x hx
  obtain ⟨i, hi, rfl⟩ := List.getElem_of_mem hx
  obtain ⟨y, _, hv⟩ := h5 i c[i] (by simp [hi])
  exact hv.inn

theorem HR.base {ρ : Ren} {w0 w : World} {h : AHeap} (H : HR P ρ w0 h w) : Base P h where
  gone := H.gone
  cells := fun b c hc x hx => by
    by_cases hb : h.n ≤ b
    · rw [H.gone b hb] at hc; cases hc
    · have hl : b < ρ.length := by rw [H.len]; omega
      obtain ⟨_, h2⟩ := H.obj b ρ[b] (by simp [hl])
      rw [← H.len]
      rcases AObj.row_cells hc with ⟨e, he⟩ | he <;> rw [he] at h2
      · exact h2.2.2.inn x hx
      · exact h2.2.inn x hx
  lps := fun b l hl i v hv => by
    by_cases hb : h.n ≤ b
    · rw [H.gone b hb] at hl; cases hl
    · have hlt : b < ρ.length := by rw [H.len]; omega
      obtain ⟨_, h2⟩ := H.obj b ρ[b] (by simp [hlt])
      rw [hl] at h2
      obtain ⟨_, L, _, k3⟩ := h2
      rw [← H.len]
      exact (k3.tmps i v hv).inn
  loops := fun b l hl => by
    by_cases hb : h.n ≤ b
    · rw [H.gone b hb] at hl; cases hl
    · have hlt : b < ρ.length := by rw [H.len]; omega
      obtain ⟨_, h2⟩ := H.obj b ρ[b] (by simp [hlt])
      rw [hl] at h2
      obtain ⟨_, L, _, hL⟩ := h2
      rw [← H.len]
      exact ⟨fun i => (hL.tmps.2 i).inn, let ⟨p, hp, _⟩ := hL.defers; ren_lt hp⟩
  glob := by
    rcases Nat.eq_zero_or_pos P.globals.size with h0 | h0
    · omega
    · obtain ⟨p, hp, _⟩ := H.glob (P.globals.size - 1) (by omega)
      have := H.lt hp
      omega

theorem Row.back {ρ ρ' : Ren} (hs : Sub ρ ρ') {p : Pl} {c : List Value} {w : World} (h : Row ρ' p c w) (hi : ∀ x ∈ c, In ρ.length x) : Row ρ p c w := by
  obtain ⟨cc, el, fz, h1, h2, h3, h4, h5⟩ := h
  exact ⟨cc, el, fz, h1, h2, h3, h4, fun i x hx => let ⟨y, hy, hv⟩ := h5 i x hx; ⟨y, hy, hv.back hs (hi x (List.mem_of_getElem? hx))⟩⟩

theorem RowR.back {ρ ρ' : Ren} (hs : Sub ρ ρ') {p : Pl} {c : List Value} {w : World} (h : RowR ρ' p c w) (hi : ∀ x ∈ c, In ρ.length x) : RowR ρ p c w := by
  obtain ⟨cc, el, fz, h1, h3, h5⟩ := h
  exact ⟨cc, el, fz, h1, h3, fun i x hx => let ⟨y, hy, hv⟩ := h5 i x hx; ⟨y, hy, hv.back hs (hi x (List.mem_of_getElem? hx))⟩⟩

/-- What lies behind the old blocks is dropped. -/
theorem HR.restrict {ρ ρ1 : Ren} {w0 w w1 : World} {h h1 : AHeap} (H0 : HR P ρ w0 h w) (H1 : HR P ρ1 w0 h1 w1) (hs : Sub ρ ρ1) (hag : ∀ b, b < h.n → h1.get b = h.get b) : HR P ρ w0 h w1 where
  len := H0.len
  gone := H0.gone
  obj := fun b p hp => by
    have hb := H0.lt hp
    obtain ⟨g1, g2⟩ := H1.obj b p (hs b p hp)
    refine ⟨g1, ?_⟩
    rw [hag b hb] at g2
    have B := H0.base
    cases ho : h.get b with
    | dead => trivial
    | lp l =>
      rw [ho] at g2
      obtain ⟨k1, L, k2, k3⟩ := g2
      have l1 := B.lps b l ho
      exact ⟨k1, L, k2, ⟨k3.state, k3.pending, k3.size, fun i v hv => (k3.tmps i v hv).back hs (by rw [H0.len]; exact l1 i v hv), k3.params, k3.assign, k3.body⟩⟩
    | cells c e =>
      rw [ho] at g2
      exact ⟨g2.1, g2.2.1, g2.2.2.back hs (by rw [H0.len]; exact B.cells b c (by rw [ho]; rfl))⟩
    | ro c =>
      rw [ho] at g2
      exact ⟨g2.1, g2.2.back hs (by rw [H0.len]; exact B.cells b c (by rw [ho]; rfl))⟩
    | iter s pos => rw [ho] at g2; exact g2
    | deferred t => rw [ho] at g2; exact g2
    | loop l =>
      rw [ho] at g2
      obtain ⟨k1, L, k2, k3⟩ := g2
      obtain ⟨l1, l2⟩ := B.loops b l ho
      obtain ⟨q, hq, hd⟩ := k3.defers
      exact ⟨k1, L, k2, ⟨k3.state, k3.pending, k3.fn, ⟨k3.tmps.1, fun i => (k3.tmps.2 i).back hs (by rw [H0.len]; exact l1 i)⟩, k3.params, k3.assign, k3.body,
        q, hs.back (by rw [H0.len]; exact l2) hq, hd⟩⟩
  inj := fun b c p q hbc hp hq l1 l2 => H1.inj b c p q hbc (hs b p hp) (hs c q hq) (by rw [hag b (H0.lt hp)]; exact l1) (by rw [hag c (H0.lt hq)]; exact l2)
  below := H1.below
  glob := H0.glob

/-! Contracts. -/

/-- It yields one value, and leaves the heap as it is. -/
def Pure (v : Value) (h : AHeap) : Value → AHeap → Prop := fun v' h' => v' = v ∧ h' = h

theorem ACalls.of_base {f : FuncId} {args : List Value} {h : AHeap} {R : Value → AHeap → Prop} (H : Base P h → ACalls P f args h R) : ACalls P f args h R :=
  fun ρ w0 w args' Hh hl => H Hh.base ρ w0 w args' Hh hl

theorem ACalls.pure {f : FuncId} {args : List Value} {h : AHeap} {R : Value → AHeap → Prop} (H : ACalls P f args h R) (hv : ∀ v h', R v h' → In h.n v ∧ ∀ b, b < h.n → h'.get b = h.get b) :
    ACalls P f args h (fun v h' => h' = h ∧ ∃ h1, R v h1) := by
  intro ρ w0 w args' Hh hl
  refine (H ρ w0 w args' Hh hl).mono ?_
  rintro e w' ⟨ρ', v, v', h', r, he, hs, H', hvr⟩
  obtain ⟨i1, i2⟩ := hv v h' r
  exact ⟨ρ, v, v', h, ⟨rfl, h', r⟩, he, .refl ρ, Hh.restrict H' hs i2, hvr.back hs (by rw [Hh.len]; exact i1)⟩

theorem ACalls.pure' {f : FuncId} {args : List Value} {h : AHeap} {x : Value} (H : ACalls P f args h (fun v h' => v = x ∧ ∀ b, b < h.n → h'.get b = h.get b)) (hx : In h.n x) : ACalls P f args h (Pure x h) :=
  (H.pure (fun v h' r => ⟨by rw [r.1]; exact hx, r.2⟩)).mono fun _ _ ⟨a, _, b, _⟩ => ⟨b, a⟩

/-! Blocks of one's own. -/

def ext (h : AHeap) : List AObj → AHeap
  | [] => h
  | o :: L => ext (h.push o) L

theorem ext_n : ∀ (L : List AObj) (h : AHeap), (ext h L).n = h.n + L.length
  | [], h => rfl
  | o :: L, h => by rw [ext, ext_n L]; simp; omega

theorem ext_get : ∀ (L : List AObj) (h : AHeap) (b : Nat), (ext h L).get b = if h.n ≤ b ∧ b < h.n + L.length then L.getD (b - h.n) .dead else h.get b
  | [], h, b => by
    rw [ext, if_neg]
    simp
  | o :: L, h, b => by
    rw [ext, ext_get L]
    simp only [AHeap.n_push, AHeap.get_push, List.length_cons]
    by_cases hb : b = h.n
    · subst hb
      rw [if_neg (by omega), if_pos rfl, if_pos (by omega)]
      simp
    · rw [if_neg hb]
      by_cases h1 : h.n ≤ b ∧ b < h.n + (L.length + 1)
      · rw [if_pos (by omega), if_pos h1, show b - h.n = (b - (h.n + 1)) + 1 from by omega, List.getD_cons_succ]
      · rw [if_neg (by omega), if_neg h1]

theorem ext_push : ∀ (L : List AObj) (h : AHeap) (o : AObj), (ext h L).push o = ext h (L ++ [o])
  | [], h, o => rfl
  | x :: L, h, o => by simp only [ext, List.cons_append]; exact ext_push L _ o

theorem ext_own {L : List AObj} {h : AHeap} {j : Nat} {o : AObj} (hj : L[j]? = some o) : (ext h L).get (h.n + j) = o := by
  have hl := (List.getElem?_eq_some_iff.1 hj).1
  rw [ext_get, if_pos (by omega), show h.n + j - h.n = j from by omega]
  simp [hj]

theorem ext_old {L : List AObj} {h : AHeap} {b : Nat} (hb : b < h.n) : (ext h L).get b = h.get b := by
  rw [ext_get, if_neg (by omega)]

/-- Heaps with the same blocks are as good as each other. -/
theorem HR.same {ρ : Ren} {w0 w : World} {h h' : AHeap} (H : HR P ρ w0 h w) (hn : h'.n = h.n) (hg : ∀ b, h'.get b = h.get b) : HR P ρ w0 h' w where
  len := by rw [H.len, hn]
  gone := fun b hb => by rw [hg]; exact H.gone b (by omega)
  obj := fun b p hp => by rw [hg]; exact H.obj b p hp
  inj := fun b c p q h1 h2 h3 h4 h5 => H.inj b c p q h1 h2 h3 (by rw [← hg]; exact h4) (by rw [← hg]; exact h5)
  below := H.below
  glob := H.glob

end Go.Am

/-
  The logic: blocks of one's own are renumbered, and what is not used any more is dropped.
-/
namespace Go.Am
open Go Go.RowKit

variable {P : Program} {n0 n : Nat} {Q : AEx → AS → Prop} {s : AS}

inductive FnRN (n0 : Nat) (gl : List Nat) : Fn → Fn → Prop where
  | func (f : FuncId) : FnRN n0 gl (.func f) (.func f)
  | yieldB {l : Nat} : l < n0 → FnRN n0 gl (.yield l) (.yield l)
  | yieldL {j k : Nat} : gl[j]? = some k → FnRN n0 gl (.yield (n0 + j)) (.yield (n0 + k))

/-- Values as they were called, and as they are called now: the block n0 + j is what was n0 + gl[j]. -/
inductive RN (n0 : Nat) (gl : List Nat) : Value → Value → Prop where
  | bool (b : Bool) : RN n0 gl (.bool b) (.bool b)
  | int (k : IntKind) (i : Int) : RN n0 gl (.int k i) (.int k i)
  | string (s : ByteArray) : RN n0 gl (.string s) (.string s)
  | nilFunc : RN n0 gl .nilFunc .nilFunc
  | nilIface : RN n0 gl .nilIface .nilIface
  | pnil : RN n0 gl (.pointer none) (.pointer none)
  | ptrB {b : Nat} (i : Nat) : b < n0 → RN n0 gl (.pointer (some ⟨b, i, none⟩)) (.pointer (some ⟨b, i, none⟩))
  | ptrL {j k : Nat} (i : Nat) : gl[j]? = some k → RN n0 gl (.pointer (some ⟨n0 + j, i, none⟩)) (.pointer (some ⟨n0 + k, i, none⟩))
  | snil (k c : Nat) : RN n0 gl (.slice none k c) (.slice none k c)
  | sliceB {b : Nat} (i k c : Nat) : b < n0 → RN n0 gl (.slice (some ⟨b, i, none⟩) k c) (.slice (some ⟨b, i, none⟩) k c)
  | sliceL {j k : Nat} (i m c : Nat) : gl[j]? = some k → RN n0 gl (.slice (some ⟨n0 + j, i, none⟩) m c) (.slice (some ⟨n0 + k, i, none⟩) m c)
  | agg (xs ys : Array Value) : xs.size = ys.size → (∀ (i : Nat) (x y : Value), xs[i]? = some x → ys[i]? = some y → RN n0 gl x y) → RN n0 gl (.agg xs) (.agg ys)
  | tuple (xs ys : Array Value) : xs.size = ys.size → (∀ (i : Nat) (x y : Value), xs[i]? = some x → ys[i]? = some y → RN n0 gl x y) → RN n0 gl (.tuple xs) (.tuple ys)
  | func (f g : Fn) (xs ys us vs : Array Value) : FnRN n0 gl f g → xs.size = ys.size → (∀ (i : Nat) (x y : Value), xs[i]? = some x → ys[i]? = some y → RN n0 gl x y) →
      us.size = vs.size → (∀ (i : Nat) (x y : Value), us[i]? = some x → vs[i]? = some y → RN n0 gl x y) → RN n0 gl (.func f xs us) (.func g ys vs)

theorem RN.of_in {gl : List Nat} {v : Value} (h : In n0 v) : RN n0 gl v v := by
  induction h with
  | bool b => exact .bool b
  | int k i => exact .int k i
  | string s => exact .string s
  | nilFunc => exact .nilFunc
  | nilIface => exact .nilIface
  | pnil => exact .pnil
  | ptr i h => exact .ptrB i h
  | snil k c => exact .snil k c
  | slice i k c h => exact .sliceB i k c h
  | agg xs _ ih => exact .agg xs xs rfl fun i x y h1 h2 => (by rw [h1] at h2; cases h2; exact ih i x h1)
  | tuple xs _ ih => exact .tuple xs xs rfl fun i x y h1 h2 => (by rw [h1] at h2; cases h2; exact ih i x h1)
  | func f xs us hf _ _ ih1 ih2 => exact .func f f xs xs us us (by cases hf with | func f => exact .func f | yield h => exact .yieldB h) rfl (fun i x y h1 h2 => by rw [h1] at h2; cases h2; exact ih1 i x h1) rfl (fun i x y h1 h2 => by rw [h1] at h2; cases h2; exact ih2 i x h1)

theorem RN.vr {ρ ρ' : Ren} {gl : List Nat} (hB : ∀ b p, b < n0 → ρ[b]? = some p → ρ'[b]? = some p) (hL : ∀ j k p, gl[j]? = some k → ρ[n0 + k]? = some p → ρ'[n0 + j]? = some p) {x y z : Value} (h : RN n0 gl x y) (v : VR ρ y z) : VR ρ' x z := by
  induction h generalizing z with
  | bool b => cases v; exact .bool b
  | int k i => cases v; exact .int k i
  | string s => cases v; exact .string s
  | nilFunc => cases v; exact .nilFunc
  | nilIface => cases v; exact .nilIface
  | pnil => cases v; exact .pnil
  | ptrB i h => cases v with | ptr _ hp => exact .ptr i (hB _ _ h hp)
  | ptrL i h => cases v with | ptr _ hp => exact .ptr i (hL _ _ _ h hp)
  | snil k c => cases v with
    | snil _ _ h => exact .snil k c h
    | void a c k hk => exact .void a c _ hk
  | sliceB i k c h =>
    cases v with
    | slice _ _ _ hp hc => exact .slice i k c (hB _ _ h hp) hc
    | opn _ _ _ hp hn hz => exact .opn i k _ (hB _ _ h hp) hn hz
  | sliceL i k c h =>
    cases v with
    | slice _ _ _ hp hc => exact .slice i k c (hL _ _ _ h hp) hc
    | opn _ _ _ hp hn hz => exact .opn i k _ (hL _ _ _ h hp) hn hz
  | agg xs ys hs _ ih =>
    cases v with
    | agg _ zs hs2 hv =>
      refine .agg xs zs (hs.trans hs2) fun i x z hx hz => ?_
      obtain ⟨y, hy⟩ := pair_of_size hs hx
      exact ih i x y hx hy (hv i y z hy hz)
  | tuple xs ys hs _ ih =>
    cases v with
    | tuple _ zs hs2 hv =>
      refine .tuple xs zs (hs.trans hs2) fun i x z hx hz => ?_
      obtain ⟨y, hy⟩ := pair_of_size hs hx
      exact ih i x y hx hy (hv i y z hy hz)
  | func f f2 xs ys us vs hf h1 _ h2 _ ih1 ih2 =>
    cases v with
    | func _ g _ zs _ ws hfr k1 kv k2 kw =>
      refine .func f g xs zs us ws ?_ (h1.trans k1) (fun i x z hx hz => ?_) (h2.trans k2) (fun i x z hx hz => ?_)
      · cases hf with
        | func f => cases hfr; exact .func f
        | yieldB hl => cases hfr with | yield hp => exact .yield (hB _ _ hl hp)
        | yieldL hl => cases hfr with | yield hp => exact .yield (hL _ _ _ hl hp)
      · obtain ⟨y, hy⟩ := pair_of_size h1 hx
        exact ih1 i x y hx hy (kv i y z hy hz)
      · obtain ⟨y, hy⟩ := pair_of_size h2 hx
        exact ih2 i x y hx hy (kw i y z hy hz)

/-- Lists. -/
def RL (n0 : Nat) (gl : List Nat) (xs ys : List Value) : Prop := xs.length = ys.length ∧ ∀ (i : Nat) (x y : Value), xs[i]? = some x → ys[i]? = some y → RN n0 gl x y

theorem RL.nil {gl : List Nat} : RL n0 gl [] [] := ⟨rfl, fun i x y h => by simp at h⟩
theorem RL.cons {gl : List Nat} {x y : Value} {xs ys : List Value} (h : RN n0 gl x y) (hs : RL n0 gl xs ys) : RL n0 gl (x :: xs) (y :: ys) := by
  refine ⟨by simp [hs.1], fun i a b ha hb => ?_⟩
  cases i with
  | zero => simp at ha hb; subst ha; subst hb; exact h
  | succ i => simp at ha hb; exact hs.2 i a b ha hb
theorem RL.of_in {gl : List Nat} {xs : List Value} (h : ∀ x ∈ xs, In n0 x) : RL n0 gl xs xs :=
  ⟨rfl, fun i x y hx hy => by rw [hx] at hy; cases hy; exact .of_in (h x (List.mem_of_getElem? hx))⟩
theorem RN.agg_of {gl : List Nat} {xs ys : List Value} (h : RL n0 gl xs ys) : RN n0 gl (.agg xs.toArray) (.agg ys.toArray) :=
  .agg _ _ (by simpa using h.1) fun i x y hx hy => h.2 i x y (by simpa using hx) (by simpa using hy)
theorem RN.tuple_of {gl : List Nat} {xs ys : List Value} (h : RL n0 gl xs ys) : RN n0 gl (.tuple xs.toArray) (.tuple ys.toArray) :=
  .tuple _ _ (by simpa using h.1) fun i x y hx hy => h.2 i x y (by simpa using hx) (by simpa using hy)

inductive RO' (n0 : Nat) (gl : List Nat) : AObj → AObj → Prop where
  | dead (o : AObj) : RO' n0 gl .dead o
  | cells {c c' : List Value} (e : Nat) : RL n0 gl c c' → RO' n0 gl (.cells c e) (.cells c' e)
  | ro {c c' : List Value} : RL n0 gl c c' → RO' n0 gl (.ro c) (.ro c')
  | iter (s : ByteArray) (i : Nat) : RO' n0 gl (.iter s i) (.iter s i)
  | deferred (t : Bool) : RO' n0 gl (.deferred t) (.deferred t)

/-- The blocks, in the order of their new numbers. -/
def ROs (n0 : Nat) (gl : List Nat) (L : List AObj) : List AObj → List Nat → Prop
  | [], [] => True
  | o' :: L', k :: r => (∃ o, L[k]? = some o ∧ RO' n0 gl o' o) ∧ ROs n0 gl L L' r
  | _, _ => False

theorem ROs.get {gl : List Nat} {L : List AObj} : ∀ (L' : List AObj) (r : List Nat), ROs n0 gl L L' r → L'.length = r.length ∧ ∀ (j k : Nat), r[j]? = some k → ∃ o o', L'[j]? = some o' ∧ L[k]? = some o ∧ RO' n0 gl o' o
  | [], [], _ => ⟨rfl, fun j k h => by simp at h⟩
  | o' :: L', k :: r, h => by
    obtain ⟨⟨o, h1, h2⟩, h3⟩ := h
    obtain ⟨g1, g2⟩ := ROs.get L' r h3
    refine ⟨by simp [g1], fun j k' hj => ?_⟩
    cases j with
    | zero => simp at hj; subst hj; exact ⟨o, o', rfl, h1, h2⟩
    | succ j => simp at hj; simpa using g2 j k' hj
  | [], _ :: _, h => h.elim
  | _ :: _, [], h => h.elim

def SlotsR (n0 : Nat) (gl : List Nat) (t : PT) : PT → Prop
  | [] => True
  | (i, v') :: r => (∃ v, look? t i = some v ∧ RN n0 gl v' v) ∧ SlotsR n0 gl t r

theorem SlotsR.get {gl : List Nat} {t : PT} : ∀ (t' : PT), SlotsR n0 gl t t' → ∀ i v', look? t' i = some v' → ∃ v, look? t i = some v ∧ RN n0 gl v' v
  | [], _, i, v', h => by cases h
  | (j, x) :: r, hs, i, v', h => by
    simp only [look?] at h
    by_cases hij : i = j
    · subst hij
      simp at h
      subst h
      exact hs.1
    · rw [beq_no hij] at h
      exact SlotsR.get r hs.2 i v' h

def keepRen (ρ : Ren) (n0 : Nat) (gl : List Nat) : Ren := ρ.take n0 ++ gl.map fun k => ρ.getD (n0 + k) ⟨0, 0, 0, 0⟩

theorem keepRen_base {ρ : Ren} {gl : List Nat} (h : n0 ≤ ρ.length) {b : Nat} (hb : b < n0) : (keepRen ρ n0 gl)[b]? = ρ[b]? := by
  unfold keepRen
  rw [List.getElem?_append_left (by simp; omega), List.getElem?_take_of_lt hb]

theorem keepRen_own {ρ : Ren} {gl : List Nat} (h : n0 ≤ ρ.length) {j k : Nat} (hj : gl[j]? = some k) (hk : n0 + k < ρ.length) : (keepRen ρ n0 gl)[n0 + j]? = ρ[n0 + k]? := by
  unfold keepRen
  have e : (ρ.take n0).length = n0 := by simp; omega
  rw [List.getElem?_append_right (by omega), e, show n0 + j - n0 = j from by omega]
  simp [hj, hk]

theorem Row.ren {ρ ρ' : Ren} {gl : List Nat} {p : Pl} {c c' : List Value} {w : World} (h : Row ρ p c w) (hB : ∀ b p, b < n0 → ρ[b]? = some p → ρ'[b]? = some p) (hL : ∀ j k p, gl[j]? = some k → ρ[n0 + k]? = some p → ρ'[n0 + j]? = some p)
    (hr : RL n0 gl c' c) : Row ρ' p c' w := by
  obtain ⟨cc, el, fz, h1, h2, h3, h4, h5⟩ := h
  refine ⟨cc, el, fz, h1, h2, by rw [hr.1]; exact h3, h4, fun i x hx => ?_⟩
  have hi : i < c.length := by rw [← hr.1]; exact (List.getElem?_eq_some_iff.1 hx).1
  obtain ⟨y, hy, hv⟩ := h5 i c[i] (by simp [hi])
  exact ⟨y, hy, (hr.2 i x c[i] hx (by simp [hi])).vr hB hL hv⟩

theorem RowR.ren {ρ ρ' : Ren} {gl : List Nat} {p : Pl} {c c' : List Value} {w : World} (h : RowR ρ p c w) (hB : ∀ b p, b < n0 → ρ[b]? = some p → ρ'[b]? = some p) (hL : ∀ j k p, gl[j]? = some k → ρ[n0 + k]? = some p → ρ'[n0 + j]? = some p)
    (hr : RL n0 gl c' c) : RowR ρ' p c' w := by
  obtain ⟨cc, el, fz, h1, h3, h5⟩ := h
  refine ⟨cc, el, fz, h1, by rw [hr.1]; exact h3, fun i x hx => ?_⟩
  have hi : i < c.length := by rw [← hr.1]; exact (List.getElem?_eq_some_iff.1 hx).1
  obtain ⟨y, hy, hv⟩ := h5 i c[i] (by simp [hi])
  exact ⟨y, hy, (hr.2 i x c[i] hx (by simp [hi])).vr hB hL hv⟩

theorem HR.keep {ρ : Ren} {w0 w : World} {h0 : AHeap} {L L' : List AObj} (B : Base P h0) {gl : List Nat} (hn : gl.Nodup) (ho : ROs h0.n gl L L' gl) (H : HR P ρ w0 (ext h0 L) w) :
    HR P (keepRen ρ h0.n gl) w0 (ext h0 L') w ∧ (∀ b p, b < h0.n → ρ[b]? = some p → (keepRen ρ h0.n gl)[b]? = some p) ∧ (∀ j k p, gl[j]? = some k → ρ[h0.n + k]? = some p → (keepRen ρ h0.n gl)[h0.n + j]? = some p) := by
  have hlen : ρ.length = h0.n + L.length := by rw [H.len, ext_n]
  obtain ⟨hl', hget⟩ := ROs.get L' gl ho
  have hk : ∀ j k, gl[j]? = some k → h0.n + k < ρ.length := fun j k hj => by
    obtain ⟨o, o', _, h2, _⟩ := hget j k hj
    have := (List.getElem?_eq_some_iff.1 h2).1
    omega
  have hB : ∀ b p, b < h0.n → ρ[b]? = some p → (keepRen ρ h0.n gl)[b]? = some p := fun b p hb hp => by rw [keepRen_base (by omega) hb]; exact hp
  have hL : ∀ j k p, gl[j]? = some k → ρ[h0.n + k]? = some p → (keepRen ρ h0.n gl)[h0.n + j]? = some p := fun j k p hj hp => by rw [keepRen_own (by omega) hj (hk j k hj)]; exact hp
  have hle : (keepRen ρ h0.n gl).length = h0.n + gl.length := by simp [keepRen]; omega
  -- what stood there before
  have hold : ∀ b p, (keepRen ρ h0.n gl)[b]? = some p → (b < h0.n ∧ ρ[b]? = some p ∧ (ext h0 L').get b = h0.get b ∧ (ext h0 L).get b = h0.get b) ∨
      (∃ j k o o', b = h0.n + j ∧ gl[j]? = some k ∧ ρ[h0.n + k]? = some p ∧ (ext h0 L').get b = o' ∧ (ext h0 L).get (h0.n + k) = o ∧ RO' h0.n gl o' o) := by
    intro b p hp
    by_cases hb : b < h0.n
    · rw [keepRen_base (by omega) hb] at hp
      exact .inl ⟨hb, hp, ext_old hb, ext_old hb⟩
    · have hbl := ren_lt hp
      rw [hle] at hbl
      have hj : b - h0.n < gl.length := by omega
      have hjg : gl[b - h0.n]? = some gl[b - h0.n] := by simp [hj]
      obtain ⟨o, o', g1, g2, g3⟩ := hget _ _ hjg
      have hb' : b = h0.n + (b - h0.n) := by omega
      rw [hb', keepRen_own (by omega) hjg (hk _ _ hjg)] at hp
      refine .inr ⟨b - h0.n, gl[b - h0.n], o, o', hb', hjg, hp, ?_, ext_own g2, g3⟩
      have := ext_own (h := h0) g1
      rwa [← hb'] at this
  refine ⟨⟨?_, ?_, ?_, ?_, H.below, ?_⟩, hB, hL⟩
  · rw [hle, ext_n, hl']
  · intro b hb
    rw [ext_n] at hb
    rw [ext_get, if_neg (by omega)]
    exact B.gone b (by omega)
  · intro b p hp
    rcases hold b p hp with ⟨hb, hp', e1, e2⟩ | ⟨j, k, o, o', rfl, hj, hp', e1, e2, hr⟩
    · obtain ⟨g1, g2⟩ := H.obj b p hp'
      refine ⟨g1, ?_⟩
      rw [e2] at g2
      rw [e1]
      cases hob : h0.get b with
      | dead => trivial
      | lp l =>
        rw [hob] at g2
        obtain ⟨k1, Lp, k2, k3⟩ := g2
        have l1 := B.lps b l hob
        exact ⟨k1, Lp, k2, ⟨k3.state, k3.pending, k3.size, fun i v hv => (RN.of_in (l1 i v hv)).vr hB hL (k3.tmps i v hv), k3.params, k3.assign, k3.body⟩⟩
      | cells c e =>
        rw [hob] at g2
        exact ⟨g2.1, g2.2.1, g2.2.2.ren hB hL (.of_in (B.cells b c (by rw [hob]; rfl)))⟩
      | ro c =>
        rw [hob] at g2
        exact ⟨g2.1, g2.2.ren hB hL (.of_in (B.cells b c (by rw [hob]; rfl)))⟩
      | iter s pos => rw [hob] at g2; exact g2
      | deferred t => rw [hob] at g2; exact g2
      | loop l =>
        rw [hob] at g2
        obtain ⟨k1, Lp, k2, k3⟩ := g2
        obtain ⟨l1, l2⟩ := B.loops b l hob
        obtain ⟨q, hq, hd⟩ := k3.defers
        exact ⟨k1, Lp, k2, ⟨k3.state, k3.pending, k3.fn, ⟨k3.tmps.1, fun i => (RN.of_in (l1 i)).vr hB hL (k3.tmps.2 i)⟩, k3.params, k3.assign, k3.body, q, hB _ _ l2 hq, hd⟩⟩
    · obtain ⟨g1, g2⟩ := H.obj _ p hp'
      refine ⟨g1, ?_⟩
      rw [e2] at g2
      rw [e1]
      cases hr with
      | dead o => trivial
      | cells e hc => exact ⟨g2.1, g2.2.1, g2.2.2.ren hB hL hc⟩
      | ro hc => exact ⟨g2.1, g2.2.ren hB hL hc⟩
      | iter s i => exact g2
      | deferred t => exact g2
  · have hlive : ∀ {o' o : AObj}, RO' h0.n gl o' o → live o' = true → live o = true := by
      intro o' o hr hl
      cases hr <;> first | exact hl | cases hl
    intro b c p q hbc hp hq l1 l2
    rcases hold b p hp with ⟨hb, hp', e1, e2⟩ | ⟨j, k, o, o', rfl, hj, hp', e1, e2, hr⟩ <;> rcases hold c q hq with ⟨hb', hq', e1', e2'⟩ | ⟨j', k', o2, o2', rfl, hj', hq', e1', e2', hr'⟩
    · exact H.inj b c p q hbc hp' hq' (by rw [e2, ← e1]; exact l1) (by rw [e2', ← e1']; exact l2)
    · exact H.inj b (h0.n + k') p q (by omega) hp' hq' (by rw [e2, ← e1]; exact l1) (by rw [e2']; exact hlive hr' (by rw [← e1']; exact l2))
    · exact H.inj (h0.n + k) c p q (by omega) hp' hq' (by rw [e2]; exact hlive hr (by rw [← e1]; exact l1)) (by rw [e2', ← e1']; exact l2)
    · have hne : k ≠ k' := by
        rintro rfl
        have h1 := List.getElem?_eq_some_iff.1 hj
        have h2 := List.getElem?_eq_some_iff.1 hj'
        obtain ⟨a1, a2⟩ := h1
        obtain ⟨b1, b2⟩ := h2
        have := (List.getElem_inj hn).1 (a2.trans b2.symm)
        omega
      exact H.inj (h0.n + k) (h0.n + k') p q (by omega) hp' hq' (by rw [e2]; exact hlive hr (by rw [← e1]; exact l1)) (by rw [e2']; exact hlive hr' (by rw [← e1']; exact l2))
  · intro g hg
    obtain ⟨p, hp, h1, h2⟩ := H.glob g hg
    exact ⟨p, hB g p (by have := B.glob; omega) hp, h1, h2⟩

/-- What is kept: blocks, renumbered, and slots. -/
theorem Ent.keep {h0 : AHeap} {L L' : List AObj} {t t' : PT} (B : Base P h0) (gl : List Nat) (hn : gl.Nodup) (ho : ROs h0.n gl L L' gl) (ht : SlotsR h0.n gl t t') :
    Ent P h0.n n ⟨t, ext h0 L, []⟩ ⟨t', ext h0 L', []⟩ := by
  intro ρ w0 w a hs
  obtain ⟨H', hB, hL⟩ := HR.keep B hn ho hs.h
  refine ⟨_, hB, ⟨hs.t.size, fun i v' hv' => ?_⟩, H', ?_⟩
  · obtain ⟨v, h1, h2⟩ := SlotsR.get t' ht i v' hv'
    exact h2.vr hB hL (hs.t.known i v h1)
  · have := hs.d
    generalize a.defers = x at this
    cases this
    exact .nil

end Go.Am

/-
  The logic: a region that draws its order ends, in whatever order, as in the order of the text. Calls that leave the heap alone are quiet.
-/
namespace Go.Am
open Go Go.RowKit

variable {P : Program} {ρ : Ren} {w0 w : World} {ops : Array Oper} {n : Nat} {heapy : Nat → Bool} {T : Nat → PT} {Hh : Nat → AHeap} {V : Nat → Value}

def pairOkL (ops : Array Oper) (pr : List Nat) (heapy : Nat → Bool) (i j : Nat) (oi oj : Oper) : Bool :=
  (pr.getD j 0).testBit i ||
  ((match oi.dst with | some d => !(looks ops oj).contains d && oj.dst != some d | none => true) &&
   (match oj.dst with | some d => !(looks ops oi).contains d | none => true) &&
   !(heapy i && heapy j))

def regionOkL (ops : Array Oper) (heapy : Nat → Bool) : Bool :=
  let l := ops.toList
  let pr := preds l
  let z := l.zipIdx
  z.all fun (oj, j) =>
    (oj.after.toList.all fun e => !Region.binds .any e || Nat.blt e.on j) &&
    (match oj.guard with | some (g, _) => Nat.blt g j | none => true) &&
    z.all fun (oi, i) => !Nat.blt i j || pairOkL ops pr heapy i j oi oj

/-- May the operation k stand where those before m that write are done, and no others? -/
def posOk (ops : Array Oper) (heapy : Nat → Bool) (k m : Nat) : Bool :=
  (List.range ops.size).all fun h => !heapy h || ((!((preds ops.toList).getD k 0).testBit h || Nat.blt h m) && (!((preds ops.toList).getD h 0).testBit k || Nat.ble m h))

/-- Is there a writer between two places? -/
def between (ops : Array Oper) (heapy : Nat → Bool) (k m : Nat) : Bool :=
  (List.range ops.size).any fun h => heapy h && (Nat.blt h k != Nat.blt h m)

/-- Where else an operation that only reads may stand. -/
def extras (ops : Array Oper) (heapy : Nat → Bool) : List (Nat × Nat) :=
  (List.range ops.size).flatMap fun k => if heapy k then [] else ((List.range (ops.size + 1)).filter fun m => posOk ops heapy k m && between ops heapy k m).map fun m => (k, m)

structure ROkL (ops : Array Oper) (heapy : Nat → Bool) : Prop where
  lt : ∀ (j : Nat) (o : Oper), ops[j]? = some o → ∀ e ∈ o.after.toList, Region.binds .any e = true → e.on < j
  pair : ∀ (i j : Nat) (oi oj : Oper), i < j → ops[i]? = some oi → ops[j]? = some oj → pairOkL ops (preds ops.toList) heapy i j oi oj = true

theorem regionOkL_spec (h : regionOkL ops heapy = true) : ROkL ops heapy := by
  unfold regionOkL at h
  have key : ∀ (j : Nat) (o : Oper), ops[j]? = some o → (o, j) ∈ ops.toList.zipIdx := fun j o ho => by
    rw [List.mem_zipIdx_iff_getElem?]
    simpa using ho
  have h' := List.all_eq_true.1 h
  constructor
  · intro j o ho e he hb
    have := h' _ (key j o ho)
    simp only [Bool.and_eq_true] at this
    have := List.all_eq_true.1 this.1.1 e he
    simp only [Bool.or_eq_true, Bool.not_eq_true', hb] at this
    rcases this with h | h
    · cases h
    · simpa [Nat.blt_eq] using h
  · intro i j oi oj hij hoi hoj
    have := h' _ (key j oj hoj)
    simp only [Bool.and_eq_true] at this
    have := List.all_eq_true.1 this.2 _ (key i oi hoi)
    have hb : Nat.blt i j = true := by simpa [Nat.blt_eq] using hij
    simpa [hb] using this

theorem pairOkL_spec {pr : List Nat} {i j : Nat} {oi oj : Oper} (h : pairOkL ops pr heapy i j oi oj = true) : (pr.getD j 0).testBit i = true ∨
    ((∀ d, oi.dst = some d → d ∉ looks ops oj ∧ oj.dst ≠ some d) ∧ (∀ d, oj.dst = some d → d ∉ looks ops oi) ∧ ¬ (heapy i = true ∧ heapy j = true)) := by
  unfold pairOkL at h
  simp only [Bool.or_eq_true, Bool.and_eq_true, Bool.not_eq_true'] at h
  rcases h with h | ⟨⟨h1, h2⟩, h3⟩
  · exact .inl h
  · refine .inr ⟨fun d hd => ?_, fun d hd => ?_, ?_⟩
    · rw [hd] at h1
      simp only [Bool.and_eq_true, Bool.not_eq_true', bne_iff_ne, ne_eq] at h1
      exact ⟨fun hm => by rw [List.contains_iff_mem.2 hm] at h1; exact absurd h1.1 (by simp), h1.2⟩
    · rw [hd] at h2
      simp only [Bool.not_eq_true'] at h2
      exact fun hm => by rw [List.contains_iff_mem.2 hm] at h2; cases h2
    · rintro ⟨a, b⟩
      rw [a, b] at h3
      cases h3

/-- One operation that is carried out, with what it yields. -/
abbrev OpX (P : Program) (o : Oper) (t : PT) (h : AHeap) (v : Value) (h1 : AHeap) : Prop := OpK P o t h (fun v' h' => v' = v ∧ h' = h1)

structure CanonL (P : Program) (n : Nat) (ops : Array Oper) (heapy : Nat → Bool) (T : Nat → PT) (Hh : Nat → AHeap) (V : Nat → Value) : Prop where
  dst : ∀ (k : Nat) (o : Oper), ops[k]? = some o → ∀ d, o.dst = some d → d < n
  put : ∀ (k : Nat) (o : Oper), ops[k]? = some o → T (k + 1) = upd (T k) o.dst (V k)
  quiet : ∀ (k : Nat) (o : Oper), ops[k]? = some o → heapy k = false → Hh (k + 1) = Hh k
  one : ∀ (k : Nat) (o : Oper), ops[k]? = some o → (pwanted ops (T k) o = some false ∧ V k = undef ∧ Hh (k + 1) = Hh k) ∨ (pwanted ops (T k) o = some true ∧ OpX P o (T k) (Hh k) (V k) (Hh (k + 1)))
  more : ∀ (k m : Nat) (o : Oper), ops[k]? = some o → heapy k = false → m ≤ ops.size → posOk ops heapy k m = true → pwanted ops (T k) o = some true → OpX P o (T k) (Hh m) (V k) (Hh m)

theorem CanonL.last (C : CanonL P n ops heapy T Hh V) (t : Nat) : ∀ i, i ≤ ops.size →
    (∃ (j : Nat) (o : Oper), j < i ∧ ops[j]? = some o ∧ o.dst = some t ∧ (∀ (k : Nat) (o' : Oper), j < k → k < i → ops[k]? = some o' → o'.dst ≠ some t) ∧ look? (T i) t = some (V j)) ∨
    ((∀ (k : Nat) (o' : Oper), k < i → ops[k]? = some o' → o'.dst ≠ some t) ∧ look? (T i) t = look? (T 0) t) := by
  intro i
  induction i with
  | zero => exact fun _ => .inr ⟨fun k _ h => by omega, rfl⟩
  | succ i ih =>
    intro hi
    have ho : ops[i]? = some ops[i] := Array.getElem?_eq_getElem (by omega)
    have hp := C.put i _ ho
    by_cases hd : ops[i].dst = some t
    · refine .inl ⟨i, ops[i], by omega, ho, hd, fun k o' h1 h2 => by omega, ?_⟩
      rw [hp, hd]
      simp [upd, look?]
    · have hsame : look? (T (i + 1)) t = look? (T i) t := by
        rw [hp]
        cases he : (ops[i].dst : Option Nat) with
        | none => rfl
        | some d =>
          have : ¬ t = d := fun e => hd (by rw [he, e])
          simp only [upd, look?]
          rw [beq_no this]
          rfl
      rcases ih (by omega) with ⟨j, o, h1, h2, h3, h4, h5⟩ | ⟨h1, h2⟩
      · refine .inl ⟨j, o, by omega, h2, h3, fun k o' hk hk' hok => ?_, by rw [hsame]; exact h5⟩
        by_cases hki : k = i
        · subst hki; rw [ho] at hok; cases hok; exact hd
        · exact h4 k o' hk (by omega) hok
      · refine .inr ⟨fun k o' hk hok => ?_, by rw [hsame]; exact h2⟩
        by_cases hki : k = i
        · subst hki; rw [ho] at hok; cases hok; exact hd
        · exact h1 k o' (by omega) hok

theorem CanonL.heap (C : CanonL P n ops heapy T Hh V) (i : Nat) : ∀ d, i + d ≤ ops.size → (∀ k, i ≤ k → k < i + d → heapy k = false) → Hh (i + d) = Hh i := by
  intro d
  induction d with
  | zero => intros; rfl
  | succ d ih =>
    intro h hq
    have ho : ops[i + d]? = some ops[i + d] := Array.getElem?_eq_getElem (by omega)
    rw [← ih (by omega) fun k h1 h2 => hq k h1 (by omega), ← C.quiet (i + d) _ ho (hq (i + d) (by omega) (by omega))]
    rfl

theorem CanonL.heap_eq (C : CanonL P n ops heapy T Hh V) {i m : Nat} (hi : i ≤ ops.size) (hm : m ≤ ops.size) (hq : ∀ k, k < ops.size → heapy k = true → (k < m ↔ k < i)) : Hh m = Hh i := by
  have hz : ∀ a b, a ≤ b → b ≤ ops.size → (∀ k, k < ops.size → heapy k = true → (k < b ↔ k < a)) → Hh b = Hh a := by
    intro a b hab hb hq
    have := C.heap a (b - a) (by omega) fun k h1 h2 => by
      cases hk : heapy k with
      | false => rfl
      | true => have := hq k (by omega) hk; omega
    rwa [show a + (b - a) = b from by omega] at this
  rcases Nat.le_total i m with h | h
  · exact hz i m h hm hq
  · exact (hz m i h hi fun k h1 h2 => (hq k h1 h2).symm).symm

structure DInvL (P : Program) (ρ : Ren) (w0 : World) (n : Nat) (ops : Array Oper) (heapy : Nat → Bool) (T : Nat → PT) (Hh : Nat → AHeap) (V : Nat → Value) (listed : Array Bool) (a : Act) (w : World) : Prop where
  size : listed.size = ops.size
  closed : ∀ (j : Nat) (o : Oper), ops[j]? = some o → listed.getD j false = true → ∀ e ∈ o.after.toList, Region.binds .any e = true → listed.getD e.on false = true
  tsize : a.tmps.size = n
  lastw : ∀ (j : Nat) (o : Oper) (t : Nat), ops[j]? = some o → listed.getD j false = true → o.dst = some t → (∀ (k : Nat) (o' : Oper), j < k → ops[k]? = some o' → listed.getD k false = true → o'.dst ≠ some t) →
    VR ρ (V j) (a.tmps.getD t undef)
  nowr : ∀ (t : Nat) (v : Value), (∀ (k : Nat) (o' : Oper), ops[k]? = some o' → listed.getD k false = true → o'.dst ≠ some t) → look? (T 0) t = some v → VR ρ v (a.tmps.getD t undef)
  heap : ∃ m, m ≤ ops.size ∧ HR P ρ w0 (Hh m) w ∧ ∀ (k : Nat), k < ops.size → heapy k = true → (listed.getD k false = true ↔ k < m)

variable {listed : Array Bool} {a : Act}

/-- One more operation, one that is ready. -/
theorem DInvL.step (R : ROkL ops heapy) (C : CanonL P n ops heapy T Hh V) (D : DInvL P ρ w0 n ops heapy T Hh V listed a w) {i : Nat} {o : Oper} (ho : ops[i]? = some o) (hun : listed.getD i false = false)
    (hdir : ∀ e ∈ o.after.toList, Region.binds .any e = true → listed.getD e.on false = true) (b : Frame) (hbk : b.kind = .normal) (rest : List Nat) (todo : List Item) (cs : List Frame) :
    ∃ ρ' a' w', Sub ρ ρ' ∧ a'.defers = a.defers ∧ DInvL P ρ' w0 n ops heapy T Hh V (listed.setIfInBounds i true) a' w' ∧
      Steps P (lone (b.atR a (.inRegion ops (i :: rest) :: todo)) cs w) (lone (b.atR a' (.inRegion ops rest :: todo)) cs w') := by
  have hi : i < ops.size := (Array.getElem?_eq_some_iff.1 ho).1
  have hlt := R.lt
  have clo : ∀ (j : Nat) (oj : Oper), ops[j]? = some oj → (∀ e ∈ oj.after.toList, Region.binds .any e = true → listed.getD e.on false = true) →
      ∀ k, ((preds ops.toList).getD j 0).testBit k = true → listed.getD k false = true := fun j oj hoj hd k hk =>
    preds_closed ops.toList (fun k => listed.getD k false = true) (fun j o h => hlt j o (by simpa using h)) (fun j o h hs => D.closed j o (by simpa using h) hs) j oj (by simpa using hoj) hd k hk
  have before : ∀ (k : Nat), ((preds ops.toList).getD i 0).testBit k = true → listed.getD k false = true := clo i o ho hdir
  have behind : ∀ (k : Nat) (ok : Oper), ops[k]? = some ok → ((preds ops.toList).getD k 0).testBit i = true → listed.getD k false = false := fun k ok hok hb => by
    cases hl : listed.getD k false with
    | false => rfl
    | true => have := clo k ok hok (D.closed k ok hok hl) i hb; rw [hun] at this; cases this
  have writers : ∀ (t : Nat), t ∈ looks ops o → ∀ (k : Nat) (ok : Oper), ops[k]? = some ok → k ≠ i → ok.dst = some t → (listed.getD k false = true ↔ k < i) := by
    intro t ht k ok hok hki hd
    rcases Nat.lt_or_gt_of_ne hki with h | h
    · refine ⟨fun _ => h, fun _ => ?_⟩
      rcases pairOkL_spec (R.pair k i ok o h hok ho) with hb | ⟨h1, _, _⟩
      · exact before k hb
      · exact absurd ht (h1 t hd).1
    · refine ⟨fun hl => ?_, fun hlt => by omega⟩
      rcases pairOkL_spec (R.pair i k o ok h ho hok) with hb | ⟨_, h2, _⟩
      · rw [behind k ok hok hb] at hl; cases hl
      · exact absurd ht (h2 t hd)
  have look : ∀ (t : Nat) (v : Value), t ∈ looks ops o → look? (T i) t = some v → VR ρ v (a.tmps.getD t undef) := by
    intro t v ht hv
    rcases C.last t i (by omega) with ⟨j, oj, h1, h2, h3, h4, h5⟩ | ⟨h1, h2⟩
    · rw [h5] at hv
      cases hv
      refine D.lastw j oj t h2 ((writers t ht j oj h2 (by omega) h3).2 h1) h3 fun k ok hk hok hl hd => ?_
      by_cases hki : k = i
      · subst hki; rw [hun] at hl; cases hl
      · exact h4 k ok hk ((writers t ht k ok hok hki hd).1 hl) hok hd
    · rw [h2] at hv
      refine D.nowr t v (fun k ok hok hl hd => ?_) hv
      by_cases hki : k = i
      · subst hki; rw [hun] at hl; cases hl
      · exact h1 k ok ((writers t ht k ok hok hki hd).1 hl) hok hd
  obtain ⟨m, hm, Hm, hwm⟩ := D.heap
  -- which writers are done
  have writing : heapy i = true → ∀ k, k < ops.size → k ≠ i → heapy k = true → (listed.getD k false = true ↔ k < i) := by
    intro hq k hks hki hqk
    have hok : ops[k]? = some ops[k] := Array.getElem?_eq_getElem hks
    rcases Nat.lt_or_gt_of_ne hki with h | h
    · refine ⟨fun _ => h, fun _ => ?_⟩
      rcases pairOkL_spec (R.pair k i _ o h hok ho) with hb | ⟨_, _, h3⟩
      · exact before k hb
      · exact absurd ⟨hqk, hq⟩ h3
    · refine ⟨fun hl => ?_, fun hlt => by omega⟩
      rcases pairOkL_spec (R.pair i k o _ h ho hok) with hb | ⟨_, _, h3⟩
      · rw [behind k _ hok hb] at hl; cases hl
      · exact absurd ⟨hq, hqk⟩ h3
  have heapEq : heapy i = true → Hh m = Hh i := by
    intro hq
    refine C.heap_eq (by omega) hm fun k hks hqk => ?_
    rw [← hwm k hks hqk]
    by_cases hki : k = i
    · subst hki; rw [hun]; simp
    · exact writing hq k hks hki hqk
  have pos : posOk ops heapy i m = true := by
    unfold posOk
    rw [List.all_eq_true]
    intro h hh
    have hhs : h < ops.size := List.mem_range.1 hh
    cases hhe : heapy h with
    | false => rfl
    | true =>
      have hk := hwm h hhs hhe
      have hoh : ops[h]? = some ops[h] := Array.getElem?_eq_getElem hhs
      have g1 : (!((preds ops.toList).getD i 0).testBit h || Nat.blt h m) = true := by
        cases hb : ((preds ops.toList).getD i 0).testBit h with
        | false => rfl
        | true => have := hk.1 (before h hb); simpa [Nat.blt_eq] using this
      have g2 : (!((preds ops.toList).getD h 0).testBit i || Nat.ble m h) = true := by
        cases hb : ((preds ops.toList).getD h 0).testBit i with
        | false => rfl
        | true =>
          have hn := behind h _ hoh hb
          have : ¬ h < m := fun hlt => by rw [hk.2 hlt] at hn; cases hn
          simp
          omega
      rw [g1, g2]; rfl
  have core : ∃ ρ' v' w', Sub ρ ρ' ∧ VR ρ' (V i) v' ∧ (∃ m', m' ≤ ops.size ∧ HR P ρ' w0 (Hh m') w' ∧ ∀ (k : Nat), k < ops.size → heapy k = true → ((listed.setIfInBounds i true).getD k false = true ↔ k < m')) ∧
      Steps P (lone (b.atR a (.inRegion ops (i :: rest) :: todo)) cs w) (lone (b.atR (a.put o.dst v') (.inRegion ops rest :: todo)) cs w') := by
    have hwant : ∀ r, pwanted ops (T i) o = some r → Region.wanted o (yielded ops a.tmps) = r := by
      intro r hp
      unfold pwanted at hp
      unfold Region.wanted
      split at hp
      · rename_i hg
        rw [hg]; cases hp; rfl
      · rename_i j want hg
        rw [hg]
        simp only
        split at hp
        · rename_i d hjd
          have hjd' : ((ops[j]?).bind (·.dst) : Option Nat) = some d := by simpa using hjd
          have hlt : d < n := by
            cases hoj : ops[j]? with
            | none => rw [hoj] at hjd'; cases hjd'
            | some o' => rw [hoj] at hjd'; exact C.dst j o' hoj d hjd'
          have e2 : a.tmps[d]? = some (a.tmps.getD d undef) := by
            have : d < a.tmps.size := by rw [D.tsize]; exact hlt
            simp [this]
          have hy : yielded ops a.tmps j = match a.tmps.getD d undef with | .bool b => some b | _ => none := by
            unfold yielded
            rw [hjd']
            simp only [Option.bind_some, e2]
            cases a.tmps.getD d undef <;> rfl
          have hmem : d ∈ looks ops o := by simp [looks, hg, hjd']
          rw [hy]
          split at hp
          · rename_i b hb
            have hv := look d _ hmem hb
            generalize a.tmps.getD d undef = y at hv
            cases hv
            cases hp
            simp
          · rename_i u hb
            have hv := look d _ hmem hb
            generalize a.tmps.getD d undef = y at hv
            cases hv
            cases hp
            rfl
          · cases hp
        · cases hp
    have hOT : OT ρ (T i) o a := fun t v ht hv => look t v (by simp only [looks, List.mem_append, List.mem_filterMap]; exact .inl ⟨.tmp t, ht, rfl⟩) hv
    have listedQuiet : heapy i = false → ∀ (k : Nat), k < ops.size → heapy k = true → ((listed.setIfInBounds i true).getD k false = true ↔ k < m) := by
      intro hq k hks hqk
      have hki : k ≠ i := fun e => by subst e; rw [hq] at hqk; cases hqk
      rw [getD_set (by rw [D.size]; exact hi), if_neg hki]
      exact hwm k hks hqk
    have listedHeapy : heapy i = true → ∀ (k : Nat), k < ops.size → heapy k = true → ((listed.setIfInBounds i true).getD k false = true ↔ k < i + 1) := by
      intro hq k hks hqk
      rw [getD_set (by rw [D.size]; exact hi)]
      by_cases hki : k = i
      · subst hki; simp
      · rw [if_neg hki, writing hq k hks hki hqk]; omega
    rcases C.one i o ho with ⟨hw, hV, hH⟩ | ⟨hw, hop⟩
    · have hw' := hwant _ hw
      have hstep := stepR_op_skip (P := P) (b := b) (a := a) (k := todo) (cs := cs) (w := w) (ops := ops) (i := i) (rest := rest) (by simp [ho, hw'])
      simp only [ho, Option.bind_some] at hstep
      cases hq : heapy i with
      | false => exact ⟨ρ, undef, w, Sub.refl ρ, by rw [hV]; exact VR.undef ρ, ⟨m, hm, Hm, listedQuiet hq⟩, .one hstep⟩
      | true =>
        have hme := heapEq hq
        rw [hme, ← hH] at Hm
        exact ⟨ρ, undef, w, Sub.refl ρ, by rw [hV]; exact VR.undef ρ, ⟨i + 1, hi, Hm, listedHeapy hq⟩, .one hstep⟩
    · have hw' := hwant _ hw
      cases hq : heapy i with
      | false =>
        obtain ⟨ρ', v, v', h', w', ⟨rfl, rfl⟩, hs, H', hv, hst⟩ := C.more i m o ho hq hm pos hw ρ w0 w a Hm hOT ops i rest b todo cs ho hw' hbk
        exact ⟨ρ', v', w', hs, hv, ⟨m, hm, H', listedQuiet hq⟩, hst⟩
      | true =>
        rw [heapEq hq] at Hm
        obtain ⟨ρ', v, v', h', w', ⟨rfl, rfl⟩, hs, H', hv, hst⟩ := hop ρ w0 w a Hm hOT ops i rest b todo cs ho hw' hbk
        exact ⟨ρ', v', w', hs, hv, ⟨i + 1, hi, H', listedHeapy hq⟩, hst⟩
  obtain ⟨ρ', v', w', hs, hv, hheap, hst⟩ := core
  have hil : i < listed.size := by rw [D.size]; exact hi
  have hdst := C.dst i o ho
  refine ⟨ρ', a.put o.dst v', w', hs, by cases o.dst <;> rfl, ⟨by simp [D.size], fun j oj hoj hl e he hb => ?_, ?_, fun j oj t hoj hl hd hlater => ?_, fun t v hnone hv0 => ?_, hheap⟩, hst⟩
  · rw [getD_set hil]
    split
    · rfl
    · rw [getD_set hil] at hl
      by_cases hji : j = i
      · subst hji; rw [ho] at hoj; cases hoj; exact hdir e he hb
      · rw [if_neg hji] at hl; exact D.closed j oj hoj hl e he hb
  · rw [← D.tsize]; cases o.dst <;> simp [Act.put]
  · by_cases hji : j = i
    · subst hji
      rw [ho] at hoj; cases hoj
      have hlt : t < a.tmps.size := by rw [D.tsize]; exact hdst t hd
      rw [hd]
      simpa [Act.put, hlt] using hv
    · rw [getD_set hil, if_neg hji] at hl
      by_cases hdi : o.dst = some t
      · exfalso
        rcases Nat.lt_or_gt_of_ne hji with h | h
        · exact hlater i o h ho (by rw [getD_set hil, if_pos rfl]) hdi
        · rcases pairOkL_spec (R.pair i j o oj h ho hoj) with hb | ⟨h1, _, _⟩
          · rw [behind j oj hoj hb] at hl; cases hl
          · exact (h1 t hdi).2 hd
      · have hget : (a.put o.dst v').tmps.getD t undef = a.tmps.getD t undef := by
          cases he : (o.dst : Option Nat) with
          | none => rfl
          | some d =>
            have : d ≠ t := fun e => hdi (by rw [he, e])
            simp only [Act.put, Array.getD_eq_getD_getElem?]
            rw [Array.getElem?_setIfInBounds_ne this]
        rw [hget]
        refine (D.lastw j oj t hoj hl hd fun k ok hk hok hlk => ?_).mono hs
        exact hlater k ok hk hok (by rw [getD_set hil]; split <;> first | rfl | exact hlk)
  · have hdi : o.dst ≠ some t := hnone i o ho (by rw [getD_set hil, if_pos rfl])
    have hget : (a.put o.dst v').tmps.getD t undef = a.tmps.getD t undef := by
      cases he : (o.dst : Option Nat) with
      | none => rfl
      | some d =>
        have : d ≠ t := fun e => hdi (by rw [he, e])
        simp only [Act.put, Array.getD_eq_getD_getElem?]
        rw [Array.getElem?_setIfInBounds_ne this]
    rw [hget]
    exact (D.nowr t v (fun k ok hok hlk => hnone k ok hok (by rw [getD_set hil]; split <;> first | rfl | exact hlk)) hv0).mono hs

end Go.Am

/-
  The logic: the rule for a region that draws its order.
-/
namespace Go.Am
open Go Go.RowKit

variable {rr : Bool}

variable {P : Program} {w0 : World} {ops : Array Oper} {n n0 : Nat} {heapy : Nat → Bool} {T : Nat → PT} {Hh : Nat → AHeap} {V : Nat → Value}

theorem goL_sim (R : ROkL ops heapy) (C : CanonL P n ops heapy T Hh V) (b : Frame) (hbk : b.kind = .normal) (todo : List Item) (cs : List Frame) :
    ∀ (fuel t : Nat) (ρ : Ren) (listed : Array Bool) (a : Act) (w : World), DInvL P ρ w0 n ops heapy T Hh V listed a w → left ops.size listed ≤ fuel →
    ∃ ρ' a' w' listed', Sub ρ ρ' ∧ a'.defers = a.defers ∧ DInvL P ρ' w0 n ops heapy T Hh V listed' a' w' ∧ (∀ i, i < ops.size → listed'.getD i false = true) ∧
      Steps P (lone (b.atR a (.inRegion ops (Region.linearise.go .any ops fuel t listed []) :: todo)) cs w) (lone (b.atR a' (.inRegion ops [] :: todo)) cs w') := by
  intro fuel
  induction fuel with
  | zero =>
    intro t ρ listed a w D hl
    refine ⟨ρ, a, w, listed, Sub.refl ρ, rfl, D, fun i hi => ?_, Steps.refl _ _⟩
    cases hli : listed.getD i false with
    | true => rfl
    | false =>
      have : 0 < left ops.size listed := List.countP_pos_iff.2 ⟨i, List.mem_range.2 hi, by rw [hli]; rfl⟩
      omega
  | succ fuel ih =>
    intro t ρ listed a w D hl
    simp only [Region.linearise.go]
    change ∃ ρ' a' w' listed', Sub ρ ρ' ∧ a'.defers = a.defers ∧ DInvL P ρ' w0 n ops heapy T Hh V listed' a' w' ∧ (∀ i, i < ops.size → listed'.getD i false = true) ∧
      Steps P (lone (b.atR a (.inRegion ops (match (Region.ready .any ops listed)[t % (Region.ready .any ops listed).length]? with
        | some i => Region.linearise.go .any ops fuel (t / (Region.ready .any ops listed).length) (listed.setIfInBounds i true) [i]
        | none => [].reverse) :: todo)) cs w) (lone (b.atR a' (.inRegion ops [] :: todo)) cs w')
    cases hr : (Region.ready .any ops listed)[t % (Region.ready .any ops listed).length]? with
    | none =>
      have hnil : Region.ready .any ops listed = [] := by
        cases he : Region.ready .any ops listed with
        | nil => rfl
        | cons x xs =>
          rw [he] at hr
          have hlt : t % (x :: xs).length < (x :: xs).length := Nat.mod_lt _ (by simp)
          rw [List.getElem?_eq_getElem hlt] at hr
          cases hr
      refine ⟨ρ, a, w, listed, Sub.refl ρ, rfl, D, ?_, Steps.refl _ _⟩
      intro i
      induction i using Nat.strongRecOn with
      | _ i ihi =>
        intro hi
        cases hli : listed.getD i false with
        | true => rfl
        | false =>
          exfalso
          have ho : ops[i]? = some ops[i] := Array.getElem?_eq_getElem hi
          have hmem : i ∈ Region.ready .any ops listed := by
            refine mem_ready.2 ⟨?_, ops[i], ho, fun e he hb => ?_⟩
            · have : i < listed.size := by rw [D.size]; exact hi
              simp only [Array.getD_eq_getD_getElem?, Array.getElem?_eq_getElem this] at hli ⊢
              exact hli
            · have := R.lt i _ ho e (by simpa using he) hb
              exact ihi e.on this (by omega)
          rw [hnil] at hmem
          cases hmem
    | some i =>
      have hmem : i ∈ Region.ready .any ops listed := List.mem_of_getElem? hr
      obtain ⟨hun, o, ho, hall⟩ := mem_ready.1 hmem
      have hi : i < ops.size := (Array.getElem?_eq_some_iff.1 ho).1
      have hun' : listed.getD i false = false := by
        rcases Nat.lt_or_ge i listed.size with h' | h'
        · simp [h'] at hun ⊢; exact hun
        · simp [Array.getElem?_eq_none h'] at hun
      simp only []
      rw [linearise_go_acc, List.reverse_singleton, List.singleton_append]
      obtain ⟨ρ1, a1, w1, hs1, hd1, D1, hst1⟩ := D.step R C ho hun' (fun e he hb => hall e (by simpa using he) hb) b hbk (Region.linearise.go .any ops fuel (t / (Region.ready .any ops listed).length) (listed.setIfInBounds i true) []) todo cs
      have hless : left ops.size (listed.setIfInBounds i true) < left ops.size listed := by
        refine countP_less (i := i) (by rw [hun']; rfl) ?_ (fun j hj => ?_) _ (List.mem_range.2 hi)
        · rw [getD_set (by rw [D.size]; exact hi), if_pos rfl]; rfl
        · rw [getD_set (by rw [D.size]; exact hi)] at hj
          split at hj
          · cases hj
          · exact hj
      obtain ⟨ρ2, a2, w2, l2, hs2, hd2, D2, hall2, hst2⟩ := ih (t / (Region.ready .any ops listed).length) ρ1 (listed.setIfInBounds i true) a1 w1 D1 (by omega)
      exact ⟨ρ2, a2, w2, l2, hs1.trans hs2, hd2.trans hd1, D2, hall2, hst1.trans hst2⟩

/-- What is asked where an operation that only reads may stand elsewhere. -/
def Extra (P : Program) (ops : Array Oper) (tr : List (PT × Value × Bool)) (hs : List AHeap) : List (Nat × Nat) → Prop
  | [] => True
  | (k, m) :: r => (match ops.toList[k]?, tr[k]?, hs[m]? with | some o, some (t, v, true), some h => OpX P o t h v h | _, _, _ => True) ∧ Extra P ops tr hs r

theorem Extra.get {tr : List (PT × Value × Bool)} {hs : List AHeap} {k m : Nat} : ∀ (ex : List (Nat × Nat)), Extra P ops tr hs ex → (k, m) ∈ ex → match ops.toList[k]?, tr[k]?, hs[m]? with | some o, some (t, v, true), some h => OpX P o t h v h | _, _, _ => True
  | [], _, h => by cases h
  | (k', m') :: r, h, hm => by
    cases hm with
    | head => exact h.1
    | tail _ hm => exact Extra.get r h.2 hm

/-- A region that draws its order, walked through in the order of the text. -/
def ADr (P : Program) (ops : Array Oper) (heapy : Nat → Bool) (ex : List (Nat × Nat)) (K : AS → Prop) : List Oper → Nat → AS → List (PT × Value × Bool) → List AHeap → Prop
  | [], _, s, tr, hs => Extra P ops tr.reverse (s.h :: hs).reverse ex ∧ K s
  | o :: r, k, s, tr, hs =>
    (pwanted ops s.t o = some true ∧ ∃ v h', OpX P o s.t s.h v h' ∧ (heapy k = false → h' = s.h) ∧ ADr P ops heapy ex K r (k + 1) ⟨upd s.t o.dst v, h', s.d⟩ ((s.t, v, true) :: tr) (s.h :: hs)) ∨
    (pwanted ops s.t o = some false ∧ ADr P ops heapy ex K r (k + 1) ⟨upd s.t o.dst undef, s.h, s.d⟩ ((s.t, undef, false) :: tr) (s.h :: hs))

theorem adr_states {ex : List (Nat × Nat)} {K : AS → Prop} : ∀ (l : List Oper) (k : Nat) (s : AS) (tr : List (PT × Value × Bool)) (hs : List AHeap), ADr P ops heapy ex K l k s tr hs → l = ops.toList.drop k → k ≤ ops.size →
    ∃ (T : Nat → PT) (Hh : Nat → AHeap) (V : Nat → Value) (W : Nat → Bool) (s' : AS), T k = s.t ∧ Hh k = s.h ∧ T ops.size = s'.t ∧ Hh ops.size = s'.h ∧ s'.d = s.d ∧ K s' ∧
      Extra P ops (tr.reverse ++ (List.range' k (ops.size - k)).map fun j => (T j, V j, W j)) (hs.reverse ++ (List.range' k (ops.size + 1 - k)).map Hh) ex ∧
      ∀ (j : Nat) (o : Oper), k ≤ j → ops[j]? = some o → T (j + 1) = upd (T j) o.dst (V j) ∧ (heapy j = false → Hh (j + 1) = Hh j) ∧
        ((W j = false ∧ pwanted ops (T j) o = some false ∧ V j = undef ∧ Hh (j + 1) = Hh j) ∨ (W j = true ∧ pwanted ops (T j) o = some true ∧ OpX P o (T j) (Hh j) (V j) (Hh (j + 1)))) := by
  intro l
  induction l with
  | nil =>
    intro k s tr hs H hl hk
    have hlen : ops.toList.length ≤ k := List.drop_eq_nil_iff.1 hl.symm
    have hlen' : ops.size ≤ k := by simpa using hlen
    have hk' : k = ops.size := by omega
    subst hk'
    refine ⟨fun _ => s.t, fun _ => s.h, fun _ => undef, fun _ => false, s, rfl, rfl, rfl, rfl, rfl, H.2, ?_, fun j o hj ho => ?_⟩
    · have e1 : ops.size - ops.size = 0 := by omega
      have e2 : ops.size + 1 - ops.size = 1 := by omega
      rw [e1, e2]
      simpa using H.1
    · have := (Array.getElem?_eq_some_iff.1 ho).1; omega
  | cons o l ih =>
    intro k s tr hs H hl hk
    obtain ⟨hlt, ho, hrest⟩ := drop_cons hl.symm
    have key : ∀ (v : Value) (h' : AHeap) (wb : Bool), ADr P ops heapy ex K l (k + 1) ⟨upd s.t o.dst v, h', s.d⟩ ((s.t, v, wb) :: tr) (s.h :: hs) → (heapy k = false → h' = s.h) →
        ((wb = false ∧ pwanted ops s.t o = some false ∧ v = undef ∧ h' = s.h) ∨ (wb = true ∧ pwanted ops s.t o = some true ∧ OpX P o s.t s.h v h')) →
        ∃ (T : Nat → PT) (Hh : Nat → AHeap) (V : Nat → Value) (W : Nat → Bool) (s' : AS), T k = s.t ∧ Hh k = s.h ∧ T ops.size = s'.t ∧ Hh ops.size = s'.h ∧ s'.d = s.d ∧ K s' ∧
          Extra P ops (tr.reverse ++ (List.range' k (ops.size - k)).map fun j => (T j, V j, W j)) (hs.reverse ++ (List.range' k (ops.size + 1 - k)).map Hh) ex ∧
          ∀ (j : Nat) (o : Oper), k ≤ j → ops[j]? = some o → T (j + 1) = upd (T j) o.dst (V j) ∧ (heapy j = false → Hh (j + 1) = Hh j) ∧
            ((W j = false ∧ pwanted ops (T j) o = some false ∧ V j = undef ∧ Hh (j + 1) = Hh j) ∨ (W j = true ∧ pwanted ops (T j) o = some true ∧ OpX P o (T j) (Hh j) (V j) (Hh (j + 1)))) := by
      intro v h' wb hA hq hop
      obtain ⟨T, Hh, V, W, s', e1, e2, e3, e4, e5, e6, e7, e8⟩ := ih (k + 1) _ _ _ hA hrest hlt
      have hne : ops.size ≠ k := by omega
      refine ⟨fun j => if j = k then s.t else T j, fun j => if j = k then s.h else Hh j, fun j => if j = k then v else V j, fun j => if j = k then wb else W j, s', by simp, by simp, by simp [hne, e3], by simp [hne, e4], e5, e6, ?_, fun j o' hj hoj => ?_⟩
      · have r1 : List.range' k (ops.size - k) = k :: List.range' (k + 1) (ops.size - (k + 1)) := range'_cons hlt
        have r2 : List.range' k (ops.size + 1 - k) = k :: List.range' (k + 1) (ops.size + 1 - (k + 1)) := range'_cons (by omega)
        have m1 : (List.range' (k + 1) (ops.size - (k + 1))).map (fun j => ((if j = k then s.t else T j), (if j = k then v else V j), (if j = k then wb else W j))) = (List.range' (k + 1) (ops.size - (k + 1))).map (fun j => (T j, V j, W j)) := by
          refine List.map_congr_left fun j hj => ?_
          have := (List.mem_range'_1.1 hj).1
          have : j ≠ k := by omega
          simp [this]
        have m2 : (List.range' (k + 1) (ops.size + 1 - (k + 1))).map (fun j => if j = k then s.h else Hh j) = (List.range' (k + 1) (ops.size + 1 - (k + 1))).map Hh := by
          refine List.map_congr_left fun j hj => ?_
          have := (List.mem_range'_1.1 hj).1
          have : j ≠ k := by omega
          simp [this]
        rw [r1, r2, List.map_cons, List.map_cons, m1, m2]
        simp only [if_true, List.reverse_cons, List.append_assoc, List.singleton_append] at e7 ⊢
        exact e7
      · by_cases hjk : j = k
        · subst hjk
          rw [ho] at hoj
          cases hoj
          have h2 : j + 1 ≠ j := by omega
          simp only [if_true, h2, if_false]
          exact ⟨by rw [e1], fun h => by rw [e2]; exact hq h, by rw [e2]; exact hop⟩
        · have h2 : j + 1 ≠ k := by omega
          simp only [hjk, h2, if_false]
          exact e8 j o' (by omega) hoj
    rcases H with ⟨hw, v, h', hop, hq, hA⟩ | ⟨hw, hA⟩
    · exact key v h' true hA hq (.inr ⟨rfl, hw, hop⟩)
    · exact key undef s.h false hA (fun _ => rfl) (.inl ⟨rfl, hw, rfl, rfl⟩)

theorem AW.regionDraw {Q : AEx → AS → Prop} {s : AS} {id : Nat} (Kp : POk P) (heapy : Nat → Bool) (ex : List (Nat × Nat)) (hok : regionOkL ops heapy = true) (hex : extras ops heapy = ex) (hd : dstOk n ops = true)
    (H : ADr P ops heapy ex (Q .normal) ops.toList 0 s [] []) : AW rr P n0 n (.region id ops true) Q s := by
  intro ρ w0 w b a k cs hs hb
  obtain ⟨T, Hh, V, W, s', e1, e2, e3, e4, e5, e6, e7, e8⟩ := adr_states ops.toList 0 s [] [] H (by simp) (by omega)
  have hd' := dstOk_spec hd
  have C : CanonL P n ops heapy T Hh V := by
    refine ⟨hd', fun k o ho => (e8 k o (by omega) ho).1, fun k o ho => (e8 k o (by omega) ho).2.1, fun k o ho => ?_, fun k m o ho hq hm hp hw => ?_⟩
    · rcases (e8 k o (by omega) ho).2.2 with ⟨_, h1, h2, h3⟩ | ⟨_, h1, h2⟩
      · exact .inl ⟨h1, h2, h3⟩
      · exact .inr ⟨h1, h2⟩
    · have hks := (Array.getElem?_eq_some_iff.1 ho).1
      obtain ⟨_, g2, g3⟩ := e8 k o (by omega) ho
      rcases g3 with ⟨_, h1, _⟩ | ⟨hW, _, h2⟩
      · rw [hw] at h1; cases h1
      · cases hbt : between ops heapy k m with
        | false =>
          have hC : ∀ i, i ≤ ops.size → True := fun _ _ => trivial
          have hz : Hh m = Hh k := by
            -- no writer between
            have hall : ∀ h, h < ops.size → heapy h = true → (h < m ↔ h < k) := by
              intro h hh hq
              unfold between at hbt
              have := List.any_eq_false.1 hbt h (List.mem_range.2 hh)
              simp only [hq, Bool.true_and, bne_iff_ne, ne_eq, Decidable.not_not] at this
              rw [Nat.blt_eq.symm, Nat.blt_eq.symm, this]
            have hq0 : ∀ a c, a ≤ c → c ≤ ops.size → (∀ h, h < ops.size → heapy h = true → (h < c ↔ h < a)) → Hh c = Hh a := by
              intro a c hac
              induction c with
              | zero => intro _ _; rw [show a = 0 from by omega]
              | succ c ih =>
                intro hc hz
                rcases Nat.eq_or_lt_of_le hac with h | h
                · rw [h]
                · have hoc : ops[c]? = some ops[c] := Array.getElem?_eq_getElem (by omega)
                  have hqc : heapy c = false := by
                    cases hh : heapy c with
                    | false => rfl
                    | true => have := hz c (by omega) hh; omega
                  rw [(e8 c _ (by omega) hoc).2.1 hqc]
                  refine ih (by omega) (by omega) fun h hh hq => ?_
                  have := hz h hh hq
                  constructor
                  · intro h1; exact this.1 (by omega)
                  · intro h1; omega
            rcases Nat.le_total k m with h | h
            · exact hq0 k m h hm hall
            · exact (hq0 m k h (by omega) fun x hx hq => (hall x hx hq).symm).symm
          rw [hz]
          have := g2 hq
          rw [this] at h2
          exact h2
        | true =>
          have hmem : (k, m) ∈ extras ops heapy := by
            unfold extras
            rw [List.mem_flatMap]
            refine ⟨k, List.mem_range.2 hks, ?_⟩
            rw [if_neg (by rw [hq]; simp)]
            rw [List.mem_map]
            refine ⟨m, List.mem_filter.2 ⟨List.mem_range.2 (by omega), ?_⟩, rfl⟩
            rw [hp, hbt]; rfl
          rw [hex] at hmem
          have := Extra.get ex e7 hmem
          have a1 : ops.toList[k]? = some o := by simpa using ho
          have a2 : (([] : List (PT × Value × Bool)).reverse ++ (List.range' 0 (ops.size - 0)).map fun j => (T j, V j, W j))[k]? = some (T k, V k, true) := by
            simp [hks, hW]
          have a3 : (([] : List AHeap).reverse ++ (List.range' 0 (ops.size + 1 - 0)).map Hh)[m]? = some (Hh m) := by
            have : m < ops.size + 1 := by omega
            simp [this]
          rw [a1, a2, a3] at this
          exact this
  have hno : ∀ k, (Array.replicate ops.size false).getD k false = false := fun k => by
    rcases Nat.lt_or_ge k ops.size with h | h <;> simp [h]
  have D : DInvL P ρ w0 n ops heapy T Hh V (Array.replicate ops.size false) a { w with drawn := w.drawn + 1 } :=
    ⟨by simp, fun j o _ hl => (by rw [hno] at hl; cases hl), hs.t.size, fun j o t _ hl => (by rw [hno] at hl; cases hl), fun t v _ hv => hs.t.known t v (by rw [← e1]; exact hv),
      0, by omega, by rw [e2]; exact hs.h.drew _, fun k _ _ => by rw [hno]; simp⟩
  have hl : left ops.size (Array.replicate ops.size false) ≤ ops.size := by
    refine Nat.le_trans List.countP_le_length ?_
    simp
  obtain ⟨ρ', a', w', l', hsub, hdd, D', hall, hst⟩ := goL_sim (regionOkL_spec hok) C b hb.1 k cs ops.size (w.tape w.drawn (.order b.fn id)) ρ _ a _ D hl
  refine ⟨.normal, s', ρ', a', w', e6, hsub.agree n0, ⟨⟨D'.tsize, fun t v hv => ?_⟩, ?_, ?_⟩, ?_⟩
  · rw [← e3] at hv
    rcases C.last t ops.size (by omega) with ⟨j, oj, h1, h2, h3, h4, h5⟩ | ⟨h1, h2⟩
    · rw [h5] at hv
      cases hv
      exact D'.lastw j oj t h2 (hall j h1) h3 fun k ok hk hok _ hdk => h4 k ok hk (Array.getElem?_eq_some_iff.1 hok).1 hok hdk
    · rw [h2] at hv
      exact D'.nowr t v (fun k ok hok _ hdk => h1 k ok (Array.getElem?_eq_some_iff.1 hok).1 hok hdk) hv
  · obtain ⟨m, hm', Hm, hwm⟩ := D'.heap
    have : Hh m = Hh ops.size := C.heap_eq (by omega) hm' fun k hk hq => by
      have := (hwm k hk hq).1 (hall k hk)
      exact ⟨fun _ => hk, fun _ => this⟩
    rw [← e4, ← this]; exact Hm
  · rw [hdd, e5]; exact hs.d.mono hsub
  · show Steps P _ _
    refine .head stepR_region_draw ?_
    simp only [Region.schedule, Kp.mixed, Bool.true_or, if_true]
    exact hst.trans (.one stepR_region_end)

end Go.Am

/-
  The logic: a rule for each kind of operation.
-/
namespace Go.Am
open Go Go.RowKit

variable {rr : Bool}

variable {P : Program} {n0 n : Nat} {t : PT} {h h' h0 : AHeap} {o : Oper} {v x y : Value} {L L' : List AObj}

def pevO (t : PT) : Operand → Option Value
  | .tmp i => look? t i
  | .const v => some v
  | .global g => some (.pointer (some ⟨g, 0, none⟩))
  | .func f => some (.func (.func f) #[] #[])

def kn (t : PT) : Operand → Bool
  | .tmp i => (look? t i).isSome
  | _ => true

theorem pev_of {a : Operand} (hx : pevO t a = some x) : pev t a = x := by
  cases a <;> simp_all [pevO, pev]

theorem kn_of {a : Operand} (hx : pevO t a = some x) : kn t a = true := by
  cases a <;> simp_all [pevO, kn]

theorem knows_eq : knows t o = o.op.operands.toList.all (kn t) := by
  unfold knows
  congr 1

theorem knows_nil (h0 : o.op.operands.toList = []) : knows t o = true := by rw [knows_eq, h0]; rfl
theorem knows1 {a : Operand} (h0 : o.op.operands.toList = [a]) (ha : pevO t a = some x) : knows t o = true := by rw [knows_eq, h0]; simp [kn_of ha]
theorem knows2 {a b : Operand} (h0 : o.op.operands.toList = [a, b]) (ha : pevO t a = some x) (hb : pevO t b = some y) : knows t o = true := by rw [knows_eq, h0]; simp [kn_of ha, kn_of hb]

theorem OpX.pure (hok : okOper P o = true) (hk : knows t o = true) (hv : apure P (pev t) h o = some v) : OpX P o t h v h :=
  OpK.value (by unfold aop; rw [hok, hv]; rfl) hk ⟨rfl, rfl⟩

/-- Operations whose outcome does not hang on memory, as can be seen. -/
def pureOp (o : Oper) : Bool :=
  match o.op with
  | .move _ | .assign _ | .pick .. | .indexAddr .. | .index .. | .fieldAddr .. | .field .. | .binOp .. | .unOp .. | .extract .. | .build .. | .makeFunc .. => true
  | .call { callee := .builtin b, .. } => match b with
    | .len | .cap | .min | .max => true
    | _ => false
  | _ => false

/-- An operation that leaves the heap alone, and how. -/
def OpS (P : Program) (o : Oper) (t : PT) (h : AHeap) (v : Value) : Prop := okOper P o = true ∧ knows t o = true ∧ apure P (pev t) h o = some v
structure OpP (P : Program) (o : Oper) (t : PT) (h : AHeap) (v : Value) : Prop where
  toX : OpX P o t h v h
  p : (pureOp o || isLoad o) = true → OpS P o t h v
theorem OpP.pure (hok : okOper P o = true) (hk : knows t o = true) (hv : apure P (pev t) h o = some v) : OpP P o t h v := ⟨.pure hok hk hv, fun _ => ⟨hok, hk, hv⟩⟩
instance : CoeOut (OpP P o t h v) (OpX P o t h v h) := ⟨OpP.toX⟩

theorem OpX.eff (hok : okOper P o = true) (hk : knows t o = true) (hn : apure P (pev t) h o = none) (hv : aeff P (pev t) h o = some (.value v h')) : OpX P o t h v h' :=
  OpK.value (by unfold aop; rw [hok, hn]; exact hv) hk ⟨rfl, rfl⟩

/-! Moves. -/

theorem xMove {a : Operand} (ho : o.op = .move a) (hok : okOper P o = true) (ha : pevO t a = some v) : OpP P o t h v :=
  .pure hok (knows1 (by rw [ho]; rfl) ha) (by unfold apure; rw [ho]; simp only [pev_of ha])

theorem xAssign {a : Operand} (ho : o.op = .assign a) (hok : okOper P o = true) (ha : pevO t a = some v) : OpP P o t h v :=
  .pure hok (knows1 (by rw [ho]; rfl) ha) (by unfold apure; rw [ho]; simp only [pev_of ha])

theorem xPick {c a b : Operand} {w : Bool} (ho : o.op = .pick c a b) (hok : okOper P o = true) (hc : pevO t c = some (.bool w)) (ha : pevO t a = some x) (hb : pevO t b = some y) : OpP P o t h (bif w then x else y) :=
  .pure hok (by rw [knows_eq, ho]; simp [Op.operands, kn_of hc, kn_of ha, kn_of hb]) (by unfold apure; rw [ho]; simp only [pev_of hc, pev_of ha, pev_of hb]; cases w <;> rfl)

/-! Memory. -/

theorem xLoad {a : Operand} {ty b i : Nat} (ho : o.op = .load ty a) (hok : okOper P o = true) (ht : aisAgg P ty = some false) (ha : pevO t a = some (.pointer (some ⟨b, i, none⟩))) (hr : aread h b i = some v) : OpP P o t h v :=
  .pure hok (knows1 (by rw [ho]; rfl) ha) (by unfold apure; rw [ho]; simp only [pev_of ha, aload, ht, Option.bind_eq_bind, Option.bind_some]; exact hr)

theorem xLoadAgg {a : Operand} {ty b i m : Nat} {cs : List Value} (ho : o.op = .load ty a) (hok : okOper P o = true) (ht : aisAgg P ty = some true) (hm : asize P ty = some m) (ha : pevO t a = some (.pointer (some ⟨b, i, none⟩))) (hr : areadN h b i m = some cs) :
    OpP P o t h (.agg cs.toArray) :=
  .pure hok (knows1 (by rw [ho]; rfl) ha) (by unfold apure; rw [ho]; simp only [pev_of ha, aload, ht, hm, hr, Option.bind_eq_bind, Option.bind_some, if_true])

theorem xFieldAddr {a : Operand} {ty f b i off m : Nat} {fs : Array Field} {fd : Field} (ho : o.op = .fieldAddr ty a f) (hok : okOper P o = true) (hu : P.underlying ty = some (.struct fs)) (hf : fs[f]? = some fd) (hoff : fd.offset = off) (hm : asize P fd.type = some (m + 1))
    (ha : pevO t a = some (.pointer (some ⟨b, i, none⟩))) : OpP P o t h (.pointer (some ⟨b, i + off, none⟩)) :=
  .pure hok (knows1 (by rw [ho]; rfl) ha) (by unfold apure; rw [ho]; simp only [pev_of ha, afieldAddr, hu, hf, hm, hoff, Option.bind_eq_bind, Option.bind_some]; rfl)

theorem xField {a : Operand} {ty f off : Nat} {fs : Array Field} {fd : Field} {cs : List Value} (ho : o.op = .field ty a f) (hok : okOper P o = true) (hu : P.underlying ty = some (.struct fs)) (hf : fs[f]? = some fd) (hoff : fd.offset = off) (ht : aisAgg P fd.type = some false)
    (ha : pevO t a = some (.agg cs.toArray)) (hv : cs[off]? = some v) : OpP P o t h v :=
  .pure hok (knows1 (by rw [ho]; rfl) ha) (by unfold apure; rw [ho]; simp only [pev_of ha, afield, hu, hf, apart, ht, hoff, Option.bind_eq_bind, Option.bind_some]; simpa using hv)

theorem xIndexAddr {a c : Operand} {ty e b i m k len cap : Nat} {kd : IntKind} {j : Int} (ho : o.op = .indexAddr ty a c) (hok : okOper P o = true) (hu : P.underlying ty = some (.slice e)) (hm : asize P e = some m)
    (ha : pevO t a = some (.slice (some ⟨b, i, none⟩) len cap)) (hc : pevO t c = some (.int kd j)) (hj : 0 ≤ j ∧ j < len) (hk : j.toNat = k) : OpP P o t h (.pointer (some ⟨b, i + k * m, none⟩)) :=
  .pure hok (knows2 (by rw [ho]; rfl) ha hc) (by unfold apure; rw [ho]; simp only [pev_of ha, pev_of hc, aindexAddr, hu, hm, Option.bind_eq_bind, Option.bind_some, hj, hk, and_self, if_true])

theorem xIndexAddrArr {a c : Operand} {ty e b i m k len : Nat} {kd : IntKind} {j : Int} (ho : o.op = .indexAddr ty a c) (hok : okOper P o = true) (hu : P.underlying ty = some (.array len e)) (hm : asize P e = some m)
    (ha : pevO t a = some (.pointer (some ⟨b, i, none⟩))) (hc : pevO t c = some (.int kd j)) (hj : 0 ≤ j ∧ j < len) (hk : j.toNat = k) : OpP P o t h (.pointer (some ⟨b, i + k * m, none⟩)) :=
  .pure hok (knows2 (by rw [ho]; rfl) ha hc) (by unfold apure; rw [ho]; simp only [pev_of ha, pev_of hc, aindexAddr, hu, hm, Option.bind_eq_bind, Option.bind_some, hj, hk, and_self, if_true])

theorem xIndexStr {a c : Operand} {ty k : Nat} {kd : IntKind} {j : Int} {s : ByteArray} {q : UInt8} (ho : o.op = .index ty a c) (hok : okOper P o = true) (hu : P.underlying ty = some .string)
    (ha : pevO t a = some (.string s)) (hc : pevO t c = some (.int kd j)) (hj : 0 ≤ j) (hk : j.toNat = k) (hq : s[k]? = some q) : OpP P o t h (.int .u8 q.toNat) :=
  .pure hok (knows2 (by rw [ho]; rfl) ha hc) (by unfold apure; rw [ho]; simp only [pev_of ha, pev_of hc, aindex, hu, hj, hk, hq, if_true, Option.map_some])

/-! Numbers. -/

theorem xBin {a c : Operand} {op : BinOp} {ty e : Nat} (ho : o.op = .binOp op ty a c e) (hok : okOper P o = true) (ha : pevO t a = some x) (hc : pevO t c = some y) (hv : abinOp P op ty x y = some v) : OpP P o t h v :=
  .pure hok (knows2 (by rw [ho]; rfl) ha hc) (by unfold apure; rw [ho]; simp only [pev_of ha, pev_of hc, hv])

theorem wrap64 {i : Int} (hi : -9223372036854775808 ≤ i ∧ i < 9223372036854775808) : IntKind.i64.wrap i = i := IntWalk.i64_in i (by omega)

theorem wrapU {k : IntKind} (hs : k.signed = false) {i : Int} (hi : 0 ≤ i ∧ i < 2 ^ k.bits) : k.wrap i = i := by
  unfold IntKind.wrap
  simp [hs]
  exact Int.emod_eq_of_lt hi.1 hi.2

theorem bAdd {ty : Nat} {i j : Int} (hi : -9223372036854775808 ≤ i + j ∧ i + j < 9223372036854775808) : abinOp P .add ty (.int .i64 i) (.int .i64 j) = some (.int .i64 (i + j)) := by
  simp [abinOp, wrap64 hi]
theorem bSub {ty : Nat} {i j : Int} (hi : -9223372036854775808 ≤ i - j ∧ i - j < 9223372036854775808) : abinOp P .sub ty (.int .i64 i) (.int .i64 j) = some (.int .i64 (i - j)) := by
  simp [abinOp, wrap64 hi]
theorem bMul {ty : Nat} {i j : Int} (hi : -9223372036854775808 ≤ i * j ∧ i * j < 9223372036854775808) : abinOp P .mul ty (.int .i64 i) (.int .i64 j) = some (.int .i64 (i * j)) := by
  simp [abinOp, wrap64 hi]
theorem bAddW {ty : Nat} {k : IntKind} {i j : Int} : abinOp P .add ty (.int k i) (.int k j) = some (.int k (k.wrap (i + j))) := by simp [abinOp]
theorem bSubW {ty : Nat} {k : IntKind} {i j : Int} : abinOp P .sub ty (.int k i) (.int k j) = some (.int k (k.wrap (i - j))) := by simp [abinOp]
theorem bMulW {ty : Nat} {k : IntKind} {i j : Int} : abinOp P .mul ty (.int k i) (.int k j) = some (.int k (k.wrap (i * j))) := by simp [abinOp]
theorem bRem {ty : Nat} {k : IntKind} {i j : Int} (hj : j ≠ 0) : abinOp P .rem ty (.int k i) (.int k j) = some (.int k (i.tmod j)) := by simp [abinOp, hj]
theorem bQuo {ty : Nat} {k : IntKind} {i j : Int} (hj : j ≠ 0) : abinOp P .quo ty (.int k i) (.int k j) = some (.int k (k.wrap (i.tdiv j))) := by simp [abinOp, hj]
theorem bLss {ty : Nat} {k : IntKind} {i j : Int} : abinOp P .lss ty (.int k i) (.int k j) = some (.bool (decide (i < j))) := by simp [abinOp]
theorem bLeq {ty : Nat} {k : IntKind} {i j : Int} : abinOp P .leq ty (.int k i) (.int k j) = some (.bool (decide (i ≤ j))) := by simp [abinOp]
theorem bGtr {ty : Nat} {k : IntKind} {i j : Int} : abinOp P .gtr ty (.int k i) (.int k j) = some (.bool (decide (i > j))) := by simp [abinOp]
theorem bGeq {ty : Nat} {k : IntKind} {i j : Int} : abinOp P .geq ty (.int k i) (.int k j) = some (.bool (decide (i ≥ j))) := by simp [abinOp]
theorem bEql {ty : Nat} {k : IntKind} {i j : Int} : abinOp P .eql ty (.int k i) (.int k j) = some (.bool (decide (i = j))) := by
  simp only [abinOp]
  simp
  rfl
theorem bNeq {ty : Nat} {k : IntKind} {i j : Int} : abinOp P .neq ty (.int k i) (.int k j) = some (.bool (!decide (i = j))) := by
  simp only [abinOp]
  simp
  rfl

theorem xNot {a : Operand} {ty : Nat} {w : Bool} (ho : o.op = .unOp .not ty a) (hok : okOper P o = true) (ha : pevO t a = some (.bool w)) : OpP P o t h (.bool (!w)) :=
  .pure hok (knows1 (by rw [ho]; rfl) ha) (by unfold apure; rw [ho]; simp only [pev_of ha, aunOp])

theorem xNeg {a : Operand} {ty : Nat} {i : Int} (ho : o.op = .unOp .neg ty a) (hok : okOper P o = true) (ha : pevO t a = some (.int .i64 i)) (hi : -9223372036854775808 < i ∧ i < 9223372036854775808) : OpP P o t h (.int .i64 (-i)) :=
  .pure hok (knows1 (by rw [ho]; rfl) ha) (by
    unfold apure; rw [ho]
    have : IntKind.i64.wrap (0 - i) = -i := by rw [wrap64 (by omega)]; omega
    simp only [pev_of ha, aunOp, this])

theorem xConv {a : Operand} {s d : Nat} {k : IntKind} {k' : IntKind} {i : Int} {sd : TypeDesc} (ho : o.op = .convert s d a) (hok : okOper P o = true) (hs : P.underlying s = some sd) (hd : P.underlying d = some (.int k)) (ha : pevO t a = some (.int k' i)) : OpP P o t h (.int k (k.wrap i)) :=
  .pure hok (knows1 (by rw [ho]; rfl) ha) (by unfold apure; rw [ho]; simp only [pev_of ha, hs, hd])

theorem xConvStr {a : Operand} {s d : Nat} {q : ByteArray} {sd : TypeDesc} (ho : o.op = .convert s d a) (hok : okOper P o = true) (hs : P.underlying s = some sd) (hd : P.underlying d = some .string) (ha : pevO t a = some (.string q)) : OpP P o t h (.string q) :=
  .pure hok (knows1 (by rw [ho]; rfl) ha) (by unfold apure; rw [ho]; simp only [pev_of ha, hs, hd])

theorem xExtract {a : Operand} {i : Nat} {vs : List Value} (ho : o.op = .extract a i) (hok : okOper P o = true) (ha : pevO t a = some (.tuple vs.toArray)) (hv : vs[i]? = some v) : OpP P o t h v :=
  .pure hok (knows1 (by rw [ho]; rfl) ha) (by unfold apure; rw [ho]; simp only [pev_of ha]; simpa using hv)

theorem xBuild {ty : Nat} {parts : Array (Nat × Operand)} {vs : List (Nat × Value)} {cs : List Value} (ho : o.op = .build ty parts) (hok : okOper P o = true) (hk : knows t o = true) (hp : (parts.toList.map fun p => (p.1, pev t p.2)) = vs) (hv : abuild P ty vs = some (.agg cs.toArray)) :
    OpP P o t h (.agg cs.toArray) :=
  .pure hok hk (by unfold apure; rw [ho]; simp only [hp, hv])

theorem xLen {ats : Array TypeId} {args : Array Operand} {a : Operand} {ty : Nat} (ho : o.op = .call { callee := .builtin .len, args := args, argTypes := ats }) (hok : okOper P o = true) (hk : knows t o = true) (harg : args.toList = [a]) (hty : ats[0]? = some ty) (ha : pevO t a = some x) (hv : alen P ty x = some v) :
    OpP P o t h v :=
  .pure hok hk (by unfold apure; rw [ho]; simp only [harg, hty, pev_of ha, hv, Option.bind_eq_bind, Option.bind_some])

/-! Effects. -/

theorem xAlloc {ty k : Nat} {cs : List Value} (ho : o.op = .alloc ty) (hok : okOper P o = true) (hz : (azero P ty).map (fun z => z.cells.toList) = some cs) (hL : L.length = k) (hA : L ++ [.cells cs 0] = L') :
    OpX P o t (ext h0 L) (.pointer (some ⟨h0.n + k, 0, none⟩)) (ext h0 L') := by
  refine .eff hok (knows_nil (by rw [ho]; rfl)) (by unfold apure; rw [ho]) ?_
  unfold aeff
  rw [ho]
  simp only [Option.map_eq_some_iff] at hz
  obtain ⟨z, hz, rfl⟩ := hz
  simp only [hz, anew, w2, Option.map_some, ext_n, ext_push, hL, hA]

theorem xBox {a : Operand} {ty k : Nat} {cs : List Value} (ho : o.op = .box ty a) (hok : okOper P o = true) (ha : pevO t a = some x) (hc : x.cells.toList = cs) (hL : L.length = k) (hA : L ++ [.cells cs 0] = L') :
    OpX P o t (ext h0 L) (.pointer (some ⟨h0.n + k, 0, none⟩)) (ext h0 L') := by
  refine .eff hok (knows1 (by rw [ho]; rfl) ha) (by unfold apure; rw [ho]) ?_
  unfold aeff
  rw [ho]
  simp only [pev_of ha, hc, anew, w2, Option.map_some, ext_n, ext_push, hL, hA]

theorem ext_set {j : Nat} {o1 : AObj} (hj : j < L.length) : (∀ b, ((ext h0 L).set (h0.n + j) o1).get b = (ext h0 (L.set j o1)).get b) ∧ ((ext h0 L).set (h0.n + j) o1).n = (ext h0 (L.set j o1)).n := by
  refine ⟨fun b => ?_, by simp [ext_n]⟩
  rw [AHeap.get_set, ext_get, ext_get]
  simp only [List.length_set]
  by_cases hb : b = h0.n + j
  · subst hb
    rw [if_pos rfl, if_pos (by omega), show h0.n + j - h0.n = j from by omega]
    simp [hj]
  · rw [if_neg hb]
    by_cases h1 : h0.n ≤ b ∧ b < h0.n + L.length
    · rw [if_pos h1, if_pos h1]
      simp only [List.getD_eq_getElem?_getD]
      rw [List.getElem?_set_ne (by omega)]
    · rw [if_neg h1, if_neg h1]

/-- Heaps with the same blocks stand for each other. -/
theorem OpX.same {h1 : AHeap} (H : OpX P o t h v h1) (hn : h'.n = h1.n) (hg : ∀ b, h1.get b = h'.get b) : OpX P o t h v h' := by
  intro ρ w0 w a Hh HT all k rest b todo cs ho hw hb
  obtain ⟨ρ', v1, v', h2, w', ⟨rfl, rfl⟩, hs, H', hv, hst⟩ := H ρ w0 w a Hh HT all k rest b todo cs ho hw hb
  exact ⟨ρ', _, v', h', w', ⟨rfl, rfl⟩, hs, H'.same hn (fun b => (hg b).symm), hv, hst⟩

theorem xStore {a c : Operand} {ty i j e : Nat} {cs cs' vs : List Value} (ho : o.op = .store ty a c) (hok : okOper P o = true) (ha : pevO t a = some (.pointer (some ⟨h0.n + j, i, none⟩))) (hc : pevO t c = some x) (hvs : x.cells.toList = vs) (hsz : asize P ty = some vs.length)
    (hj : L[j]? = some (.cells cs e)) (hi : i + vs.length ≤ cs.length) (hcell : vs.all isCell = true) (hcs : setAll cs i vs = cs') (hL : L.set j (.cells cs' e) = L') : OpX P o t (ext h0 L) undef (ext h0 L') := by
  have hjl : j < L.length := (List.getElem?_eq_some_iff.1 hj).1
  obtain ⟨g1, g2⟩ := ext_set (h0 := h0) (o1 := .cells cs' e) hjl
  rw [hL] at g1 g2
  refine OpX.same (h1 := (ext h0 L).set (h0.n + j) (.cells cs' e)) ?_ g2.symm g1
  refine .eff hok (knows2 (by rw [ho]; rfl) ha hc) (by unfold apure; rw [ho]) ?_
  have hvs' : x.cells.size = vs.length := by rw [← hvs]; simp
  unfold aeff
  rw [ho]
  simp only [pev_of ha, pev_of hc, astore, hsz, hvs', hvs, awriteN, ext_own hj, hcell, hcs, hi, beq_self_eq_true, if_true, decide_true, Bool.and_self, Option.map_some]

theorem read_own {j i : Nat} {e : Nat} {cs : List Value} (hj : L[j]? = some (.cells cs e)) (hi : cs[i]? = some v) : aread (ext h0 L) (h0.n + j) i = some v := by
  simp only [aread, ext_own hj, AObj.row, Option.bind_some, hi]

theorem readN_own {j i m : Nat} {e : Nat} {cs cs' : List Value} (hj : L[j]? = some (.cells cs e)) (hi : i + m ≤ cs.length) (hcs : (cs.drop i).take m = cs') : areadN (ext h0 L) (h0.n + j) i m = some cs' := by
  simp only [areadN, ext_own hj, AObj.row, Option.bind_some, takeAt, hi, if_true, hcs]

theorem read_base {b i : Nat} (hb : b < h0.n) (hr : aread h0 b i = some v) : aread (ext h0 L) b i = some v := by
  simp only [aread, ext_old hb] at hr ⊢
  exact hr

theorem readN_base {b i m : Nat} {cs : List Value} (hb : b < h0.n) (hr : areadN h0 b i m = some cs) : areadN (ext h0 L) b i m = some cs := by
  simp only [areadN, ext_old hb] at hr ⊢
  exact hr

/-! Steps. -/

variable {all : Array Oper} {K : AS → Prop} {r : List Oper} {d : List Nat}

theorem AOps.one (hw : pwanted all t o = some true) (hop : OpX P o t h v h') (next : AOps P n all K r ⟨upd t o.dst v, h', d⟩) : AOps P n all K (o :: r) ⟨t, h, d⟩ :=
  .inl ⟨hw, hop.mono fun _ _ ⟨h1, h2⟩ => by rw [h1, h2]; exact next⟩

theorem AOps.oneB {w : Bool} (hw : pwanted all t o = some true) (hop : OpX P o t h (.bool w) h') (yes : w = true → AOps P n all K r ⟨upd t o.dst (.bool true), h', d⟩) (no : w = false → AOps P n all K r ⟨upd t o.dst (.bool false), h', d⟩) : AOps P n all K (o :: r) ⟨t, h, d⟩ := by
  cases w with
  | true => exact .one hw hop (yes rfl)
  | false => exact .one hw hop (no rfl)

theorem AW.condB {Q : AEx → AS → Prop} {i : Nat} {c1 c2 : Code} {w : Bool} (hl : look? t i = some (.bool w)) (yes : w = true → AW rr P n0 n c1 Q ⟨t, h, d⟩) (no : w = false → AW rr P n0 n c2 Q ⟨t, h, d⟩) : AW rr P n0 n (.cond (.tmp i) c1 c2) Q ⟨t, h, d⟩ := by
  cases w with
  | true => exact .cond hl (yes rfl)
  | false => exact .cond hl (no rfl)

theorem AOps.done {s : AS} (hk : K s) : AOps P n all K [] s := hk

/-- A call of a function that leaves the heap alone. -/
theorem xCallPure (Kp : POk P) {f : FuncId} {args : List Value} {cargs : Array Operand} {ats : Array TypeId} {ell : Call} {fn : Func} (ho : o.op = .call ell) (hc : ell.callee = .value (.func f)) (hargs : ell.args = cargs) (hok : okOper P o = true) (hk : knows t o = true) (hps : cargs.toList.map (pev t) = args)
    (hf : P.funcs[f]? = some fn) (hb : fn.body.isSome = true) (hat : ell.argTypes = ats) (H : ACalls P f args h (Pure v h)) : OpX P o t h v h := by
  refine OpK.call Kp (f := f) (args := args) ?_ hk hf hb (H.mono fun _ _ h => h)
  unfold aop
  rw [hok]
  have h1 : apure P (pev t) h o = none := by
    unfold apure
    rw [ho]
    obtain ⟨callee, as, ats⟩ := ell
    cases hc
    rfl
  rw [h1]
  unfold aeff
  rw [ho]
  subst hargs
  simp [hc, pev, hps]

end Go.Am

/-
  The logic: rules for drawn regions, ends of functions, and more ways to read.
-/
namespace Go.Am
open Go Go.RowKit

variable {rr : Bool}

variable {P : Program} {n0 n : Nat} {t : PT} {h h' h0 : AHeap} {o : Oper} {v x y : Value} {L L' : List AObj}
variable {ops : Array Oper} {heapy : Nat → Bool} {ex : List (Nat × Nat)} {K : AS → Prop} {r : List Oper} {k : Nat} {d : List Nat} {tr : List (PT × Value × Bool)} {hs : List AHeap}

theorem ADr.one (hw : pwanted ops t o = some true) (hop : OpX P o t h v h) (next : ADr P ops heapy ex K r (k + 1) ⟨upd t o.dst v, h, d⟩ ((t, v, true) :: tr) (h :: hs)) : ADr P ops heapy ex K (o :: r) k ⟨t, h, d⟩ tr hs :=
  .inl ⟨hw, v, h, hop, fun _ => rfl, next⟩

theorem ADr.eff (hk : heapy k = true) (hw : pwanted ops t o = some true) (hop : OpX P o t h v h') (next : ADr P ops heapy ex K r (k + 1) ⟨upd t o.dst v, h', d⟩ ((t, v, true) :: tr) (h :: hs)) : ADr P ops heapy ex K (o :: r) k ⟨t, h, d⟩ tr hs :=
  .inl ⟨hw, v, h', hop, fun hf => absurd (hk.symm.trans hf) (by simp), next⟩

theorem ADr.oneB {w : Bool} (hw : pwanted ops t o = some true) (hop : OpX P o t h (.bool w) h) (yes : w = true → ADr P ops heapy ex K r (k + 1) ⟨upd t o.dst (.bool true), h, d⟩ ((t, .bool true, true) :: tr) (h :: hs))
    (no : w = false → ADr P ops heapy ex K r (k + 1) ⟨upd t o.dst (.bool false), h, d⟩ ((t, .bool false, true) :: tr) (h :: hs)) : ADr P ops heapy ex K (o :: r) k ⟨t, h, d⟩ tr hs := by
  cases w with
  | true => exact .one hw hop (yes rfl)
  | false => exact .one hw hop (no rfl)

theorem ADr.off (hw : pwanted ops t o = some false) (next : ADr P ops heapy ex K r (k + 1) ⟨upd t o.dst undef, h, d⟩ ((t, undef, false) :: tr) (h :: hs)) : ADr P ops heapy ex K (o :: r) k ⟨t, h, d⟩ tr hs := .inr ⟨hw, next⟩

theorem ADr.done {s : AS} (he : Extra P ops tr.reverse (s.h :: hs).reverse ex) (hk : K s) : ADr P ops heapy ex K [] k s tr hs := ⟨he, hk⟩

theorem xPickT {c a b : Operand} (ho : o.op = .pick c a b) (hok : okOper P o = true) (hc : pevO t c = some (.bool true)) (ha : pevO t a = some x) (hb : pevO t b = some y) : OpP P o t h x := xPick ho hok hc ha hb
theorem xPickF {c a b : Operand} (ho : o.op = .pick c a b) (hok : okOper P o = true) (hc : pevO t c = some (.bool false)) (ha : pevO t a = some x) (hb : pevO t b = some y) : OpP P o t h y := xPick ho hok hc ha hb

theorem readN_all {j m : Nat} {e : Nat} {cs : List Value} (hj : L[j]? = some (.cells cs e)) (hm : cs.length = m) : areadN (ext h0 L) (h0.n + j) 0 m = some cs := by
  refine readN_own hj (by omega) ?_
  rw [← hm]; simp

theorem xFieldAddr0 {a : Operand} {ty f b off m : Nat} {fs : Array Field} {fd : Field} (ho : o.op = .fieldAddr ty a f) (hok : okOper P o = true) (hu : P.underlying ty = some (.struct fs)) (hf : fs[f]? = some fd) (hoff : fd.offset = off) (hm : asize P fd.type = some (m + 1))
    (ha : pevO t a = some (.pointer (some ⟨b, 0, none⟩))) : OpP P o t h (.pointer (some ⟨b, off, none⟩)) := by
  have := xFieldAddr (h := h) ho hok hu hf hoff hm ha
  rwa [Nat.zero_add] at this

theorem xIndexAddr1 {a c : Operand} {ty e b k len cap : Nat} {kd : IntKind} {j : Int} (ho : o.op = .indexAddr ty a c) (hok : okOper P o = true) (hu : P.underlying ty = some (.slice e)) (hm : asize P e = some 1)
    (ha : pevO t a = some (.slice (some ⟨b, 0, none⟩) len cap)) (hc : pevO t c = some (.int kd j)) (hj : 0 ≤ j ∧ j < len) (hk : j.toNat = k) : OpP P o t h (.pointer (some ⟨b, k, none⟩)) := by
  have := xIndexAddr (h := h) ho hok hu hm ha hc hj hk
  rwa [Nat.zero_add, Nat.mul_one] at this

theorem FnEnd.r1 {fn : Func} {R : Value → AHeap → Prop} {s : AS} {a : ResultVar} (hr : fn.results.toList = [a]) (hd : s.d = []) (ha : prv P s a = some v) (hR : R v s.h) : FnEnd P fn R .ret s :=
  ⟨hd, v, by simp [presults, hr, ha], hR⟩

theorem FnEnd.r2 {fn : Func} {R : Value → AHeap → Prop} {s : AS} {a b : ResultVar} (hr : fn.results.toList = [a, b]) (hd : s.d = []) (ha : prv P s a = some x) (hb : prv P s b = some y) (hR : R (.tuple [x, y].toArray) s.h) : FnEnd P fn R .ret s :=
  ⟨hd, _, by simp [presults, hr, ha, hb], hR⟩

theorem FnEnd.r3 {fn : Func} {R : Value → AHeap → Prop} {s : AS} {a b c : ResultVar} {z : Value} (hr : fn.results.toList = [a, b, c]) (hd : s.d = []) (ha : prv P s a = some x) (hb : prv P s b = some y) (hc : prv P s c = some z) (hR : R (.tuple [x, y, z].toArray) s.h) : FnEnd P fn R .ret s :=
  ⟨hd, _, by simp [presults, hr, ha, hb, hc], hR⟩

theorem FnEnd.r0 {fn : Func} {R : Value → AHeap → Prop} {s : AS} (hr : fn.results.toList = []) (hd : s.d = []) (hR : R (.tuple #[]) s.h) : FnEnd P fn R .ret s :=
  ⟨hd, _, by simp [presults, hr], hR⟩

theorem prv_agg {a ty b i m : Nat} {cs : List Value} (hl : look? t a = some (.pointer (some ⟨b, i, none⟩))) (ht : aisAgg P ty = some true) (hm : asize P ty = some m) (hr : areadN h b i m = some cs) : prv P ⟨t, h, d⟩ (.cell a ty) = some (.agg cs.toArray) := by
  simp only [prv, hl, Option.bind_some, aload, ht, hm, hr, Option.bind_eq_bind, if_true]

theorem prv_one {a ty b i : Nat} (hl : look? t a = some (.pointer (some ⟨b, i, none⟩))) (ht : aisAgg P ty = some false) (hr : aread h b i = some v) : prv P ⟨t, h, d⟩ (.cell a ty) = some v := by
  simp only [prv, hl, Option.bind_some, aload, ht, Option.bind_eq_bind]
  exact hr

/-- Values without blocks. -/
theorem In.cells (hv : ∀ x ∈ v.cells.toList, In n x) (ha : ∃ xs, v = .agg xs) : In n v := by
  obtain ⟨xs, rfl⟩ := ha
  exact .agg xs fun i x hx => hv x (by simp [Value.cells]; exact Array.mem_of_getElem? hx)

theorem In.agg_list {cs : List Value} (hv : ∀ x ∈ cs, In n x) : In n (.agg cs.toArray) := .agg _ fun i x hx => hv x (by simpa using Array.mem_of_getElem? hx)
theorem In.tuple_list {cs : List Value} (hv : ∀ x ∈ cs, In n x) : In n (.tuple cs.toArray) := .tuple _ fun i x hx => hv x (by simpa using Array.mem_of_getElem? hx)

/-- A function that leaves its caller's heap alone, whatever it makes itself. -/
theorem ACalls.pureOf {f : FuncId} {args : List Value} {x : Value} (hx : In h.n x) (H : ACalls P f args h (fun v h' => v = x ∧ ∃ L, h' = ext h L)) : ACalls P f args h (Pure x h) :=
  (H.mono fun v h' ⟨h1, L, h2⟩ => ⟨h1, fun b hb => by rw [h2]; exact ext_old hb⟩).pure' hx

/-! Steps, with the slot that is written named. -/

variable {all : Array Oper} {e : Nat}

theorem AOps.set (hd : o.dst = some e) (hw : pwanted all t o = some true) (hop : OpX P o t h v h') (next : AOps P n all K r ⟨(e, v) :: t, h', d⟩) : AOps P n all K (o :: r) ⟨t, h, d⟩ := .one hw hop (by rw [hd]; exact next)
theorem AOps.non (hd : o.dst = none) (hw : pwanted all t o = some true) (hop : OpX P o t h v h') (next : AOps P n all K r ⟨t, h', d⟩) : AOps P n all K (o :: r) ⟨t, h, d⟩ := .one hw hop (by rw [hd]; exact next)
theorem AOps.setB {w : Bool} (hd : o.dst = some e) (hw : pwanted all t o = some true) (hop : OpX P o t h (.bool w) h') (yes : w = true → AOps P n all K r ⟨(e, .bool true) :: t, h', d⟩) (no : w = false → AOps P n all K r ⟨(e, .bool false) :: t, h', d⟩) : AOps P n all K (o :: r) ⟨t, h, d⟩ :=
  .oneB hw hop (fun hb => by rw [hd]; exact yes hb) (fun hb => by rw [hd]; exact no hb)
theorem AOps.offS (hd : o.dst = some e) (hw : pwanted all t o = some false) (next : AOps P n all K r ⟨(e, undef) :: t, h, d⟩) : AOps P n all K (o :: r) ⟨t, h, d⟩ := .off hw (by rw [hd]; exact next)
theorem AOps.offN (hd : o.dst = none) (hw : pwanted all t o = some false) (next : AOps P n all K r ⟨t, h, d⟩) : AOps P n all K (o :: r) ⟨t, h, d⟩ := .off hw (by rw [hd]; exact next)
theorem ADr.set (hd : o.dst = some e) (hw : pwanted ops t o = some true) (hop : OpX P o t h v h) (next : ADr P ops heapy ex K r (k + 1) ⟨(e, v) :: t, h, d⟩ ((t, v, true) :: tr) (h :: hs)) : ADr P ops heapy ex K (o :: r) k ⟨t, h, d⟩ tr hs := .one hw hop (by rw [hd]; exact next)
theorem ADr.non (hd : o.dst = none) (hw : pwanted ops t o = some true) (hop : OpX P o t h v h) (next : ADr P ops heapy ex K r (k + 1) ⟨t, h, d⟩ ((t, v, true) :: tr) (h :: hs)) : ADr P ops heapy ex K (o :: r) k ⟨t, h, d⟩ tr hs := .one hw hop (by rw [hd]; exact next)
theorem ADr.effS (hd : o.dst = some e) (hk : heapy k = true) (hw : pwanted ops t o = some true) (hop : OpX P o t h v h') (next : ADr P ops heapy ex K r (k + 1) ⟨(e, v) :: t, h', d⟩ ((t, v, true) :: tr) (h :: hs)) : ADr P ops heapy ex K (o :: r) k ⟨t, h, d⟩ tr hs := .eff hk hw hop (by rw [hd]; exact next)
theorem ADr.effN (hd : o.dst = none) (hk : heapy k = true) (hw : pwanted ops t o = some true) (hop : OpX P o t h v h') (next : ADr P ops heapy ex K r (k + 1) ⟨t, h', d⟩ ((t, v, true) :: tr) (h :: hs)) : ADr P ops heapy ex K (o :: r) k ⟨t, h, d⟩ tr hs := .eff hk hw hop (by rw [hd]; exact next)
theorem ADr.setB {w : Bool} (hd : o.dst = some e) (hw : pwanted ops t o = some true) (hop : OpX P o t h (.bool w) h) (yes : w = true → ADr P ops heapy ex K r (k + 1) ⟨(e, .bool true) :: t, h, d⟩ ((t, .bool true, true) :: tr) (h :: hs))
    (no : w = false → ADr P ops heapy ex K r (k + 1) ⟨(e, .bool false) :: t, h, d⟩ ((t, .bool false, true) :: tr) (h :: hs)) : ADr P ops heapy ex K (o :: r) k ⟨t, h, d⟩ tr hs := .oneB hw hop (fun hb => by rw [hd]; exact yes hb) (fun hb => by rw [hd]; exact no hb)
theorem ADr.offS (hd : o.dst = some e) (hw : pwanted ops t o = some false) (next : ADr P ops heapy ex K r (k + 1) ⟨(e, undef) :: t, h, d⟩ ((t, undef, false) :: tr) (h :: hs)) : ADr P ops heapy ex K (o :: r) k ⟨t, h, d⟩ tr hs := .off hw (by rw [hd]; exact next)
theorem ADr.offN (hd : o.dst = none) (hw : pwanted ops t o = some false) (next : ADr P ops heapy ex K r (k + 1) ⟨t, h, d⟩ ((t, undef, false) :: tr) (h :: hs)) : ADr P ops heapy ex K (o :: r) k ⟨t, h, d⟩ tr hs := .off hw (by rw [hd]; exact next)

theorem AW.condT {Q : AEx → AS → Prop} {i : Nat} {c1 c2 : Code} (hl : look? t i = some (.bool true)) (H : AW rr P n0 n c1 Q ⟨t, h, d⟩) : AW rr P n0 n (.cond (.tmp i) c1 c2) Q ⟨t, h, d⟩ := .cond hl H
theorem AW.condF {Q : AEx → AS → Prop} {i : Nat} {c1 c2 : Code} (hl : look? t i = some (.bool false)) (H : AW rr P n0 n c2 Q ⟨t, h, d⟩) : AW rr P n0 n (.cond (.tmp i) c1 c2) Q ⟨t, h, d⟩ := .cond hl H

/-! Numbers whose kind may not hold them: the wrap is named. -/

theorem bAddK {ty : Nat} {kd : IntKind} {i j m : Int} (hw : kd.wrap (i + j) = m) : abinOp P .add ty (.int kd i) (.int kd j) = some (.int kd m) := by rw [← hw]; exact bAddW
theorem bSubK {ty : Nat} {kd : IntKind} {i j m : Int} (hw : kd.wrap (i - j) = m) : abinOp P .sub ty (.int kd i) (.int kd j) = some (.int kd m) := by rw [← hw]; exact bSubW
theorem bMulK {ty : Nat} {kd : IntKind} {i j m : Int} (hw : kd.wrap (i * j) = m) : abinOp P .mul ty (.int kd i) (.int kd j) = some (.int kd m) := by rw [← hw]; exact bMulW
theorem bRemN {ty : Nat} {kd : IntKind} {i j : Int} (hi : 0 ≤ i ∧ j ≠ 0) : abinOp P .rem ty (.int kd i) (.int kd j) = some (.int kd (i % j)) := by rw [bRem hi.2, Int.tmod_eq_emod_of_nonneg hi.1]
theorem bQuoN {ty : Nat} {kd : IntKind} {i j m : Int} (hi : 0 ≤ i ∧ j ≠ 0) (hw : kd.wrap (i / j) = m) : abinOp P .quo ty (.int kd i) (.int kd j) = some (.int kd m) := by rw [bQuo hi.2, Int.tdiv_eq_ediv_of_nonneg hi.1, hw]

theorem xConvK {a : Operand} {s d : Nat} {kd : IntKind} {k' : IntKind} {i m : Int} {sd : TypeDesc} (ho : o.op = .convert s d a) (hok : okOper P o = true) (hs : P.underlying s = some sd) (hd : P.underlying d = some (.int kd)) (ha : pevO t a = some (.int k' i)) (hw : kd.wrap i = m) : OpP P o t h (.int kd m) := by
  rw [← hw]; exact xConv ho hok hs hd ha

theorem setAll_one {cs : List Value} {i : Nat} : setAll cs i [x] = cs.set i x := rfl

theorem setAll_eq : ∀ (vs pre post cs : List Value), cs.length = vs.length → setAll (pre ++ cs ++ post) pre.length vs = pre ++ vs ++ post
  | [], pre, post, cs, h => by
    have : cs = [] := List.length_eq_zero_iff.1 h
    subst this; rfl
  | v :: vs, pre, post, [], h => by cases h
  | v :: vs, pre, post, c :: cs, h => by
    have h2 := setAll_eq vs (pre ++ [v]) post cs (by simpa using h)
    have e : (pre ++ c :: cs ++ post).set pre.length v = pre ++ [v] ++ cs ++ post := by simp
    simp only [setAll, e]
    simpa using h2

theorem setAll_all {cs vs : List Value} (h : vs.length = cs.length) : setAll cs 0 vs = vs := by
  have := setAll_eq vs [] [] cs h.symm
  simpa using this

/-- A struct is stored whole. -/
theorem xStoreAll {a c : Operand} {ty j e : Nat} {cs vs : List Value} (ho : o.op = .store ty a c) (hok : okOper P o = true) (ha : pevO t a = some (.pointer (some ⟨h0.n + j, 0, none⟩))) (hc : pevO t c = some (.agg vs.toArray)) (hsz : asize P ty = some vs.length)
    (hj : L[j]? = some (.cells cs e)) (hi : vs.length = cs.length) (hcell : vs.all isCell = true) (hL : L.set j (.cells vs e) = L') : OpX P o t (ext h0 L) undef (ext h0 L') :=
  xStore (vs := vs) ho hok ha hc rfl hsz hj (by omega) hcell (setAll_all hi) hL

/-- A struct is stored into a part. -/
theorem xStoreAgg {a c : Operand} {ty i j e : Nat} {cs cs' vs : List Value} (ho : o.op = .store ty a c) (hok : okOper P o = true) (ha : pevO t a = some (.pointer (some ⟨h0.n + j, i, none⟩))) (hc : pevO t c = some (.agg vs.toArray)) (hsz : asize P ty = some vs.length)
    (hj : L[j]? = some (.cells cs e)) (hi : i + vs.length ≤ cs.length) (hcell : vs.all isCell = true) (hcs : setAll cs i vs = cs') (hL : L.set j (.cells cs' e) = L') : OpX P o t (ext h0 L) undef (ext h0 L') :=
  xStore (vs := vs) ho hok ha hc rfl hsz hj hi hcell hcs hL

/-- One cell is stored. -/
theorem xStore1 {a c : Operand} {ty i j e : Nat} {cs cs' : List Value} (ho : o.op = .store ty a c) (hok : okOper P o = true) (ha : pevO t a = some (.pointer (some ⟨h0.n + j, i, none⟩))) (hc : pevO t c = some x) (hx : x.cells.toList = [x]) (hsz : asize P ty = some 1)
    (hj : L[j]? = some (.cells cs e)) (hi : i < cs.length) (hcell : isCell x = true) (hcs : cs.set i x = cs') (hL : L.set j (.cells cs' e) = L') : OpX P o t (ext h0 L) undef (ext h0 L') :=
  xStore (vs := [x]) ho hok ha hc hx (by simpa using hsz) hj (by simp; omega) (by simp [hcell]) (by rw [setAll_one]; exact hcs) hL

theorem xBoxAgg {a : Operand} {ty k : Nat} {cs : List Value} (ho : o.op = .box ty a) (hok : okOper P o = true) (ha : pevO t a = some (.agg cs.toArray)) (hL : L.length = k) (hA : L ++ [.cells cs 0] = L') :
    OpX P o t (ext h0 L) (.pointer (some ⟨h0.n + k, 0, none⟩)) (ext h0 L') := xBox ho hok ha rfl hL hA
theorem xBox1 {a : Operand} {ty k : Nat} (ho : o.op = .box ty a) (hok : okOper P o = true) (ha : pevO t a = some x) (hx : x.cells.toList = [x]) (hL : L.length = k) (hA : L ++ [.cells [x] 0] = L') :
    OpX P o t (ext h0 L) (.pointer (some ⟨h0.n + k, 0, none⟩)) (ext h0 L') := xBox ho hok ha hx hL hA

theorem ACalls.ofBody {f : FuncId} {fn : Func} {c : Code} {args : List Value} {R : Value → AHeap → Prop} (hf : P.funcs[f]? = some fn) (hb : fn.body = some c) (hn : args.length ≤ fn.ntmps)
    (H : AW true P h.n fn.ntmps c (FnEnd P fn R) ⟨argsPT 0 args, ext h [], []⟩) : ACalls P f args h R := .of_body hf hb hn H

end Go.Am

/-
  The logic: equality of other values than numbers; a closed call that returns true.
-/
namespace Go.Am
open Go Go.RowKit

variable {P : Program} {n0 n : Nat} {t : PT} {h h' h0 : AHeap} {o : Oper} {v x y : Value} {L L' : List AObj}

theorem bEqlB {ty : Nat} {a b : Bool} (hu : P.underlying ty = some .bool) : abinOp P .eql ty (.bool a) (.bool b) = some (.bool (a == b)) := by
  simp [abinOp, noGuard, aequal, hu, asame]
theorem bNeqB {ty : Nat} {a b : Bool} (hu : P.underlying ty = some .bool) : abinOp P .neq ty (.bool a) (.bool b) = some (.bool (!(a == b))) := by
  simp [abinOp, noGuard, aequal, hu, asame]
theorem bEqlS {ty : Nat} {a b : ByteArray} : abinOp P .eql ty (.string a) (.string b) = some (.bool (a.toList == b.toList)) := by simp [abinOp]
theorem bNeqS {ty : Nat} {a b : ByteArray} : abinOp P .neq ty (.string a) (.string b) = some (.bool (!(a.toList == b.toList))) := by simp [abinOp]

def andAll : List (Option Bool) → Option Bool
  | [] => some true
  | none :: _ => none
  | some true :: r => andAll r
  | some false :: _ => some false

theorem andAll_some : ∀ bs : List Bool, andAll (bs.map some) = some (bs.all id)
  | [] => rfl
  | true :: r => by simp [andAll, andAll_some r]
  | false :: r => by simp [andAll]

def eqField (P : Program) (d : Nat) (xs ys : Array Value) (f : Field) : Option Bool :=
  match apart P f.type xs f.offset, apart P f.type ys f.offset with
  | some a, some b => aequal P d f.type a b
  | _, _ => none

theorem aeqFields_all (d : Nat) (xs ys : Array Value) : ∀ fs : List Field, (fs.all fun f => !(f.name == "_")) = true → aeqFields P (aequal P d) xs ys fs = andAll (fs.map (eqField P d xs ys))
  | [], _ => rfl
  | f :: fs, hn => by
    simp only [List.all_cons, Bool.and_eq_true, Bool.not_eq_true', beq_eq_false_iff_ne, ne_eq] at hn
    have ih := aeqFields_all d xs ys fs hn.2
    simp only [aeqFields, hn.1, if_false, List.map_cons, eqField]
    cases apart P f.type xs f.offset with
    | none => rfl
    | some a =>
      cases apart P f.type ys f.offset with
      | none => rfl
      | some b =>
        simp only
        cases aequal P d f.type a b with
        | none => rfl
        | some r => cases r <;> simp [andAll, ih]

theorem aequal_struct {ty : Nat} {xs ys : Array Value} {fs : Array Field} {bs : List Bool} (hu : P.underlying ty = some (.struct fs)) (hst : P.stoodInHeld ty = false) (hn : (fs.toList.all fun f => !(f.name == "_")) = true)
    (hl : fs.toList.map (eqField P 99 xs ys) = bs.map some) : aequal P (99 + 1) ty (.agg xs) (.agg ys) = some (bs.all id) := by
  have e : aequal P (99 + 1) ty (.agg xs) (.agg ys) = if P.stoodInHeld ty then none else aeqFields P (aequal P 99) xs ys fs.toList := by
    show (match P.underlying ty, Value.agg xs, Value.agg ys with
      | some (.struct fields), .agg xs, .agg ys => if P.stoodInHeld ty then none else aeqFields P (aequal P 99) xs ys fields.toList
      | some (.slice _), .slice a _ p, .slice b _ q => if nilS a p then some (nilS b q) else if nilS b q then some false else none
      | some (.func ..), .nilFunc, .nilFunc => some true
      | some (.func ..), .nilFunc, .func .. => some false
      | some (.func ..), .func .., .nilFunc => some false
      | some (.pointer _), .pointer none, .pointer b => some b.isNone
      | some (.pointer _), .pointer _, .pointer none => some false
      | some d, x, y => asame d x y
      | none, _, _ => none) = _
    rw [hu]
  rw [e, if_neg (by simp [hst]), aeqFields_all 99 xs ys _ hn, hl, andAll_some]

theorem bEqlStruct {ty : Nat} {xs ys : List Value} {fs : Array Field} {bs : List Bool} (hg : noGuard P ty (.agg xs.toArray) = true) (hu : P.underlying ty = some (.struct fs)) (hst : P.stoodInHeld ty = false) (hn : (fs.toList.all fun f => !(f.name == "_")) = true)
    (hl : fs.toList.map (eqField P 99 xs.toArray ys.toArray) = bs.map some) : abinOp P .eql ty (.agg xs.toArray) (.agg ys.toArray) = some (.bool (bs.all id)) := by
  show (if noGuard P ty (.agg xs.toArray) = true then (aequal P (99 + 1) ty (.agg xs.toArray) (.agg ys.toArray)).map Value.bool else none) = _
  rw [if_pos hg, aequal_struct hu hst hn hl]; rfl

theorem bNeqStruct {ty : Nat} {xs ys : List Value} {fs : Array Field} {bs : List Bool} (hg : noGuard P ty (.agg xs.toArray) = true) (hu : P.underlying ty = some (.struct fs)) (hst : P.stoodInHeld ty = false) (hn : (fs.toList.all fun f => !(f.name == "_")) = true)
    (hl : fs.toList.map (eqField P 99 xs.toArray ys.toArray) = bs.map some) : abinOp P .neq ty (.agg xs.toArray) (.agg ys.toArray) = some (.bool (!(bs.all id))) := by
  show (if noGuard P ty (.agg xs.toArray) = true then (aequal P (99 + 1) ty (.agg xs.toArray) (.agg ys.toArray)).map (fun r => Value.bool (!r)) else none) = _
  rw [if_pos hg, aequal_struct hu hst hn hl]; rfl

/-- A closed call that returns true, in any heap. -/
theorem ACalls.ofTrue {f : FuncId} (hc : ∀ w : World, P.globals.size ≤ w.heap.size → Calls P f #[] w fun e w' => e = .returned (.bool true) ∧ Below w.heap.size w w') (h : AHeap) : ACalls P f [] h (Pure (.bool true) h) := by
  intro ρ w0 w args' Hh hl
  have hargs : args' = #[] := by
    have := hl.nil_left
    exact Array.toList_eq_nil_iff.1 this
  subst hargs
  have hG : P.globals.size ≤ w.heap.size := by
    rcases Nat.eq_zero_or_pos P.globals.size with h0 | h0
    · omega
    · obtain ⟨p, hp, hb, _⟩ := Hh.glob (P.globals.size - 1) (by omega)
      have := (Hh.obj _ p hp).1
      omega
  refine (hc w hG).mono ?_
  rintro e w' ⟨rfl, hB⟩
  have hB0 : Below w0.heap.size w0 w' := by
    refine Hh.below.trans ⟨hB.os, hB.tape, hB.output, hB.size, fun k hk => hB.block k ?_⟩
    have := Hh.below.size
    omega
  exact ⟨ρ, .bool true, .bool true, h, ⟨rfl, rfl⟩, rfl, .refl ρ, Hh.turn hB0 hB.size (fun b p hp _ => hB.block p.b (Hh.obj b p hp).1), .bool true⟩

/-- A contract of a call that returns true is what the statements ask. -/
theorem ACalls.true {f : FuncId} {args : List Value} {h : AHeap} {ρ : Ren} {w0 w : World} {args' : Array Value} (H : ACalls P f args h (Pure (.bool true) h)) (Hh : HR P ρ w0 h w) (hl : LR ρ args args'.toList) :
    Calls P f args' w fun e w' => e = .returned (.bool true) ∧ Below w0.heap.size w0 w' := by
  refine (H ρ w0 w args' Hh hl).mono ?_
  rintro e w' ⟨ρ', v, v', h', ⟨rfl, rfl⟩, rfl, _, H', hv⟩
  cases hv
  exact ⟨rfl, H'.below⟩

end Go.Am

/-
  The logic: loops whose state is some values; the rest of the slots stays as it is.
-/
namespace Go.Am
open Go Go.RowKit

variable {rr : Bool}

variable {P : Program} {n0 n : Nat} {Q : AEx → AS → Prop} {h h0 : AHeap} {t : PT} {L : List AObj}

def SlotsS (t : PT) : PT → Prop
  | [] => True
  | (i, v) :: r => look? t i = some v ∧ SlotsS t r

theorem SlotsS.get : ∀ (t' : PT), SlotsS t t' → ∀ i v, look? t' i = some v → look? t i = some v
  | [], _, i, v, h => by cases h
  | (j, x) :: r, hs, i, v, h => by
    simp only [look?] at h
    by_cases hij : i = j
    · subst hij
      simp at h
      subst h
      exact hs.1
    · rw [beq_no hij] at h
      exact SlotsS.get r hs.2 i v h

theorem Ent.sub {t' : PT} {d : List Nat} (hs : SlotsS t t') : Ent P n0 n ⟨t, h, d⟩ ⟨t', h, d⟩ := .slots (SlotsS.get t' hs)

theorem Ent.refl {s : AS} : Ent P n0 n s s := fun ρ _ _ _ hs => ⟨ρ, .refl _ _, hs⟩

theorem Ent.trans {s s' s2 : AS} (h : Ent P n0 n s s') (k : Ent P n0 n s' s2) : Ent P n0 n s s2 := fun ρ w0 w a hs =>
  let ⟨ρ1, g1, r1⟩ := h ρ w0 w a hs
  let ⟨ρ2, g2, r2⟩ := k ρ1 w0 w a r1
  ⟨ρ2, g1.trans g2, r2⟩

/-- Slots are forgotten ahead of a piece of code. -/
theorem AW.forget {c : Code} (t' : PT) {d : List Nat} (hs : SlotsS t t') (H : AW rr P n0 n c Q ⟨t', h, d⟩) : AW rr P n0 n c Q ⟨t, h, d⟩ := .ent (.sub hs) H

theorem AW.loopE {c : Code} {s : AS} (I : Nat → AS → Prop) (m : Nat) (h0 : I m s) (round : ∀ m s, I m s → AW rr P n0 n c (AEx.then (fun s1 => ∃ s' m', Ent P n0 n s1 s' ∧ m' < m ∧ I m' s') Q) s) : AW rr P n0 n (.loop c) Q s := by
  refine AW.loop I m h0 fun m s hI => ?_
  refine AW.entPost ((round m s hI).mono fun e s1 hq => ?_)
  cases e with
  | normal => obtain ⟨s', m', he, hm, hI'⟩ := hq; exact ⟨s', he, m', hm, hI'⟩
  | exit id => exact ⟨s1, .refl, hq⟩
  | goto l => exact ⟨s1, .refl, hq⟩
  | ret => exact ⟨s1, .refl, hq⟩

/-- A loop that leaves the heap alone: its values x, the slots that hang on them, the others. -/
theorem AW.loopH {c : Code} {α : Type} {d : List Nat} (t0 : PT) (x0 : α) (tv : α → PT) (inv : α → Prop) (meas : α → Nat) (hs : SlotsS t (tv x0 ++ t0)) (hi : inv x0)
    (round : ∀ x, inv x → AW rr P n0 n c (AEx.then (fun s1 => ∃ x', meas x' < meas x ∧ inv x' ∧ Ent P n0 n s1 ⟨tv x' ++ t0, h, d⟩) Q) ⟨tv x ++ t0, h, d⟩) : AW rr P n0 n (.loop c) Q ⟨t, h, d⟩ := by
  refine AW.ent (.sub hs) ?_
  refine AW.loopE (fun m s => ∃ x, m = meas x ∧ s = ⟨tv x ++ t0, h, d⟩ ∧ inv x) (meas x0) ⟨x0, rfl, rfl, hi⟩ ?_
  rintro m s ⟨x, rfl, rfl, hx⟩
  refine (round x hx).mono fun e s1 hq => ?_
  cases e with
  | normal => obtain ⟨x', h1, h2, h3⟩ := hq; exact ⟨_, meas x', h3, h1, x', rfl, rfl, h2⟩
  | exit id => exact hq
  | goto l => exact hq
  | ret => exact hq

/-- A loop whose blocks hang on its values, too. -/
theorem AW.loopL {c : Code} {α : Type} (t0 : PT) (x0 : α) (tv : α → PT) (Lf : α → List AObj) (inv : α → Prop) (meas : α → Nat) (he : Ent P n0 n ⟨t, ext h0 L, []⟩ ⟨tv x0 ++ t0, ext h0 (Lf x0), []⟩) (hi : inv x0)
    (round : ∀ x, inv x → AW rr P n0 n c (AEx.then (fun s1 => ∃ x', meas x' < meas x ∧ inv x' ∧ Ent P n0 n s1 ⟨tv x' ++ t0, ext h0 (Lf x'), []⟩) Q) ⟨tv x ++ t0, ext h0 (Lf x), []⟩) : AW rr P n0 n (.loop c) Q ⟨t, ext h0 L, []⟩ := by
  refine AW.ent he ?_
  refine AW.loopE (fun m s => ∃ x, m = meas x ∧ s = ⟨tv x ++ t0, ext h0 (Lf x), []⟩ ∧ inv x) (meas x0) ⟨x0, rfl, rfl, hi⟩ ?_
  rintro m s ⟨x, rfl, rfl, hx⟩
  refine (round x hx).mono fun e s1 hq => ?_
  cases e with
  | normal => obtain ⟨x', h1, h2, h3⟩ := hq; exact ⟨_, meas x', h3, h1, x', rfl, rfl, h2⟩
  | exit id => exact hq
  | goto l => exact hq
  | ret => exact hq

theorem RN.of_in_range {gl : List Nat} {k : Nat} {v : Value} (hg : ∀ j, j < k → gl[j]? = some j) (h : In (n0 + k) v) : RN n0 gl v v := by
  have key : ∀ b, b < n0 + k → (b < n0) ∨ (∃ j, b = n0 + j ∧ gl[j]? = some j) := fun b hb => by
    by_cases hb0 : b < n0
    · exact .inl hb0
    · exact .inr ⟨b - n0, by omega, hg _ (by omega)⟩
  induction h with
  | bool b => exact .bool b
  | int k i => exact .int k i
  | string s => exact .string s
  | nilFunc => exact .nilFunc
  | nilIface => exact .nilIface
  | pnil => exact .pnil
  | ptr i h =>
    rcases key _ h with h | ⟨j, rfl, hj⟩
    · exact .ptrB i h
    · exact .ptrL i hj
  | snil k c => exact .snil k c
  | slice i m c h =>
    rcases key _ h with h | ⟨j, rfl, hj⟩
    · exact .sliceB i m c h
    · exact .sliceL i m c hj
  | agg xs _ ih => exact .agg xs xs rfl fun i x y h1 h2 => (by rw [h1] at h2; cases h2; exact ih i x h1)
  | tuple xs _ ih => exact .tuple xs xs rfl fun i x y h1 h2 => (by rw [h1] at h2; cases h2; exact ih i x h1)
  | func f xs us hf _ _ ih1 ih2 =>
    refine .func f f xs xs us us ?_ rfl (fun i x y h1 h2 => by rw [h1] at h2; cases h2; exact ih1 i x h1) rfl (fun i x y h1 h2 => by rw [h1] at h2; cases h2; exact ih2 i x h1)
    cases hf with
    | func f => exact .func f
    | yield hl =>
      rcases key _ hl with h | ⟨j, rfl, hj⟩
      · exact .yieldB h
      · exact .yieldL hj

def SlotsIn (n : Nat) : PT → Prop
  | [] => True
  | (_, v) :: r => In n v ∧ SlotsIn n r

def ObjIn (n : Nat) : AObj → Prop
  | .lp _ => False
  | .cells c _ => ∀ x ∈ c, In n x
  | .ro c => ∀ x ∈ c, In n x
  | .dead => True
  | .iter _ _ => True
  | .deferred _ => True
  | .loop _ => False

def ObjsIn (n : Nat) : List AObj → Prop
  | [] => True
  | o :: r => ObjIn n o ∧ ObjsIn n r

theorem SlotsIn.get : ∀ (t : PT), SlotsIn n t → ∀ i v, look? t i = some v → In n v
  | [], _, i, v, h => by cases h
  | (j, x) :: r, hs, i, v, h => by
    simp only [look?] at h
    by_cases hij : i = j
    · subst hij
      simp at h
      subst h
      exact hs.1
    · rw [beq_no hij] at h
      exact SlotsIn.get r hs.2 i v h

theorem ObjsIn.get : ∀ (L : List AObj), ObjsIn n L → ∀ (j : Nat) o, L[j]? = some o → ObjIn n o
  | [], _, j, o, h => by simp at h
  | x :: L, hs, 0, o, h => by simp at h; subst h; exact hs.1
  | x :: L, hs, j + 1, o, h => by simp at h; exact ObjsIn.get L hs.2 j o h

theorem ROs.of_range {k : Nat} {gl : List Nat} (hg : ∀ j, j < k → gl[j]? = some j) : ∀ (L' L G : List AObj) (m : Nat), ObjsIn (n0 + k) L' → m + L'.length = k → L = G ++ L' → G.length = m → ∀ M, ROs n0 gl (L ++ M) L' (List.range' m L'.length)
  | [], L, G, m, _, _, _, _, M => trivial
  | o :: L', L, G, m, ho, hk, hL, hG, M => by
    refine ⟨⟨o, ?_, ?_⟩, ?_⟩
    · rw [hL, List.append_assoc, List.getElem?_append_right (by omega), hG]
      simp
    · have h1 := ho.1
      cases o with
      | lp l => exact h1.elim
      | cells c e => exact .cells e ⟨rfl, fun i x y hx hy => by rw [hx] at hy; cases hy; exact RN.of_in_range hg (h1 x (List.mem_of_getElem? hx))⟩
      | ro c => exact .ro ⟨rfl, fun i x y hx hy => by rw [hx] at hy; cases hy; exact RN.of_in_range hg (h1 x (List.mem_of_getElem? hx))⟩
      | dead => exact .dead _
      | iter s p => exact .iter s p
      | deferred t => exact .deferred t
      | loop l => exact h1.elim
    · exact ROs.of_range hg L' L (G ++ [o]) (m + 1) ho.2 (by simp at hk; omega) (by rw [hL]; simp) (by simp [hG]) M

/-- The last blocks are dropped, and slots forgotten. -/
theorem Ent.trunc {t' : PT} {L M : List AObj} (B : Base P h0) (hs : SlotsS t t') (hi : SlotsIn (h0.n + L.length) t') (ho : ObjsIn (h0.n + L.length) L) : Ent P h0.n n ⟨t, ext h0 (L ++ M), []⟩ ⟨t', ext h0 L, []⟩ := by
  have hg : ∀ j, j < L.length → (List.range' 0 L.length)[j]? = some j := fun j hj => by simp [hj]
  refine Ent.keep B (List.range' 0 L.length) List.nodup_range' (ROs.of_range hg L L [] 0 ho (by omega) rfl rfl M) ?_
  have key : ∀ r : PT, SlotsS t r → SlotsIn (h0.n + L.length) r → SlotsR h0.n (List.range' 0 L.length) t r := by
    intro r
    induction r with
    | nil => intros; trivial
    | cons x r ih => exact fun a b => ⟨⟨x.2, a.1, RN.of_in_range hg b.1⟩, ih a.2 b.2⟩
  exact key t' hs hi

end Go.Am

/-
  The logic: slices and strings.
-/
namespace Go.Am
open Go Go.RowKit

variable {P : Program} {n0 n : Nat} {t : PT} {h h' h0 : AHeap} {o : Oper} {v x y : Value} {L L' : List AObj}

theorem xBuildSlice {ty m k : Nat} {parts : Array (Nat × Operand)} {vs : List (Nat × Value)} {cs : List Value} (ho : o.op = .buildSlice ty m parts) (hok : okOper P o = true) (hk : knows t o = true) (hp : (parts.toList.map fun p => (p.1, pev t p.2)) = vs)
    (hv : ∀ h : AHeap, abuildSlice P h ty m vs = some (.slice (some ⟨h.n, 0, none⟩) m m, h.push (.cells cs 0))) (hL : L.length = k) (hA : L ++ [.cells cs 0] = L') :
    OpX P o t (ext h0 L) (.slice (some ⟨h0.n + k, 0, none⟩) m m) (ext h0 L') := by
  refine .eff hok hk (by unfold apure; rw [ho]) ?_
  unfold aeff
  rw [ho]
  simp only [hp, hv, w2, Option.map_some, ext_n, ext_push, hL, hA]

def pevOO (t : PT) : Option Operand → Option (Option Value)
  | none => some none
  | some a => (pevO t a).map some

theorem pevOO_map {a : Option Operand} {r : Option Value} (h : pevOO t a = some r) : a.map (pev t) = r ∧ (a.toList.all (kn t)) = true := by
  cases a with
  | none => simp [pevOO] at h; subst h; simp
  | some a =>
    simp only [pevOO, Option.map_eq_some_iff] at h
    obtain ⟨v, hv, rfl⟩ := h
    exact ⟨by simp [pev_of hv], by simp [kn_of hv]⟩

theorem xSlice {ty : Nat} {a : Operand} {lo hi mx : Option Operand} {l r m : Option Value} (ho : o.op = .slice ty a lo hi mx) (hok : okOper P o = true) (ha : pevO t a = some x) (hl : pevOO t lo = some l) (hr : pevOO t hi = some r) (hm : pevOO t mx = some m)
    (hv : aslice P h ty x l r m = some v) : OpP P o t h v := by
  obtain ⟨l1, l2⟩ := pevOO_map hl
  obtain ⟨r1, r2⟩ := pevOO_map hr
  obtain ⟨m1, m2⟩ := pevOO_map hm
  refine .pure hok ?_ (by unfold apure; rw [ho]; simp only [pev_of ha, l1, r1, m1, hv])
  rw [knows_eq, ho]
  simp only [Op.operands]
  have := kn_of ha
  cases lo <;> cases hi <;> cases mx <;> simp_all

theorem xMakeSlice {ty k : Nat} {a c : Operand} {i j : Int} {ki kj : IntKind} {cs : List Value} {l m : Nat} (ho : o.op = .makeSlice ty a c) (hok : okOper P o = true) (ha : pevO t a = some (.int ki i)) (hc : pevO t c = some (.int kj j))
    (hv : ∀ h : AHeap, amakeSlice P h ty (.int ki i) (.int kj j) = some (.slice (some ⟨h.n, 0, none⟩) l m, h.push (.cells cs 0))) (hL : L.length = k) (hA : L ++ [.cells cs 0] = L') :
    OpX P o t (ext h0 L) (.slice (some ⟨h0.n + k, 0, none⟩) l m) (ext h0 L') := by
  refine .eff hok (knows2 (by rw [ho]; rfl) ha hc) (by unfold apure; rw [ho]) ?_
  unfold aeff
  rw [ho]
  simp only [pev_of ha, pev_of hc, hv, w2, Option.map_some, ext_n, ext_push, hL, hA]

theorem xMakeFunc {f : FuncId} {first captured : Array Operand} {vs us : Array Value} (ho : o.op = .makeFunc (.func f) first captured) (hok : okOper P o = true) (hk : knows t o = true) (h1 : first.map (pev t) = vs) (h2 : captured.map (pev t) = us) : OpP P o t h (.func (.func f) vs us) :=
  .pure hok hk (by unfold apure; rw [ho]; simp only [h1, h2])

theorem xCap {ats : Array TypeId} {args : Array Operand} {a : Operand} {ty : Nat} (ho : o.op = .call { callee := .builtin .cap, args := args, argTypes := ats }) (hok : okOper P o = true) (hk : knows t o = true) (harg : args.toList = [a]) (hty : ats[0]? = some ty) (ha : pevO t a = some x) (hv : acap P ty x = some v) :
    OpP P o t h v :=
  .pure hok hk (by unfold apure; rw [ho]; simp only [harg, hty, pev_of ha, hv, Option.bind_eq_bind, Option.bind_some])

theorem xMin {ats : Array TypeId} {args : Array Operand} {vs : List Value} (ho : o.op = .call { callee := .builtin .min, args := args, argTypes := ats }) (hok : okOper P o = true) (hk : knows t o = true) (hvs : args.toList.map (pev t) = vs) (hv : amin false vs = some v) : OpP P o t h v :=
  .pure hok hk (by unfold apure; rw [ho]; simp only [hvs, hv])

theorem xMax {ats : Array TypeId} {args : Array Operand} {vs : List Value} (ho : o.op = .call { callee := .builtin .max, args := args, argTypes := ats }) (hok : okOper P o = true) (hk : knows t o = true) (hvs : args.toList.map (pev t) = vs) (hv : amin true vs = some v) : OpP P o t h v :=
  .pure hok hk (by unfold apure; rw [ho]; simp only [hvs, hv])

theorem lenSlice {ty e : Nat} {b : Option Addr} {l c : Nat} (hu : P.underlying ty = some (.slice e)) : alen P ty (.slice b l c) = some (.int .i64 l) := by simp [alen, hu]
theorem lenStr {ty : Nat} {s : ByteArray} (hu : P.underlying ty = some .string) : alen P ty (.string s) = some (.int .i64 s.size) := by simp [alen, hu]
theorem lenArr {ty m e : Nat} (hu : P.underlying ty = some (.array m e)) : alen P ty x = some (.int .i64 m) := by
  unfold alen; rw [hu]
theorem capSlice {ty e : Nat} {b : Option Addr} {l c : Nat} (hu : P.underlying ty = some (.slice e)) (hc : c < big) : acap P ty (.slice b l c) = some (.int .i64 c) := by
  simp [acap, hu, hc]

/-! Append. -/

/-- What the types of an append say: cells and bytes of an element. -/
def appT (P : Program) (ats : Array TypeId) (size bytes : Nat) : Bool :=
  match ats[0]?, ats[1]? with
  | some st, some xt =>
    match P.underlying st, P.underlying xt with
    | some (.slice elem), some xd =>
      match P.info? elem, azero P elem with
      | some i, some z => !isIntT xd && Nat.beq i.size size && Nat.beq i.bytes bytes && Nat.beq z.cells.size size && Nat.blt 0 size && Nat.blt 0 bytes
      | _, _ => false
    | _, _ => false
  | _, _ => false

theorem appT_spec {ats : Array TypeId} {size bytes : Nat} (h : appT P ats size bytes = true) : 0 < size ∧ 0 < bytes ∧ ∀ (h : AHeap) (base : Option Addr) (sLen sCap m : Nat) (x : Value), lenOf x = some m →
    aappend P h ats (.slice base sLen sCap) x =
      if (sLen + m) * bytes > 140737488355328 then none else
        match firstOf h size m x with
        | none => none
        | some new =>
          if new.length ≠ m * size then none else
          if sCap < big then
            if sLen + m ≤ sCap then (awriteAt h base (sLen * size) new).map fun h' => (.slice base (sLen + m) sCap, h')
            else
              match firstOf h size sLen (.slice base sLen sCap) with
              | some old => if old.length = sLen * size then some (.slice (some ⟨h.n, 0, none⟩) (sLen + m) big, h.push (.cells (old ++ new) size)) else none
              | none => none
          else if sCap = big then
            if m = 0 then (if new = [] then some (.slice base sLen sCap, h) else none)
            else
              match base with
              | some ⟨b, o, none⟩ =>
                match areadN h b o (sLen * size), eszOf h b with
                | some old, some e => if e = size ∧ new.all isCell = true then some (.slice (some ⟨h.n, 0, none⟩) (sLen + m) big, (h.set b .dead).push (.cells (old ++ new) size)) else none
                | _, _ => none
              | _ => none
          else if sCap = big + 1 ∧ sLen = 0 then
            match base with
            | none => if m = 0 then (if new = [] then some (.slice base sLen sCap, h) else none) else some (.slice (some ⟨h.n, 0, none⟩) m big, h.push (.cells new size))
            | _ => none
          else none := by
  unfold appT at h
  split at h
  · rename_i st xt h1 h2
    split at h
    · rename_i elem xd h3 h4
      split at h
      · rename_i i z h5 h6
        simp only [Bool.and_eq_true, Bool.not_eq_true', Nat.blt_eq] at h
        obtain ⟨⟨⟨⟨⟨g1, g2⟩, g3⟩, g4⟩, g5⟩, g6⟩ := h
        obtain rfl := Nat.eq_of_beq_eq_true g2
        obtain rfl := Nat.eq_of_beq_eq_true g3
        have g4 := Nat.eq_of_beq_eq_true g4
        refine ⟨g5, g6, fun h base sLen sCap m x hx => ?_⟩
        unfold aappend
        simp only [h1, h2, h3, h4, h5, h6, hx, g1, g4]
        have e1 : (i.size == 0) = false := by simp; omega
        have e2 : (i.bytes == 0) = false := by simp; omega
        by_cases hc : (sLen + m) * i.bytes > 140737488355328
        · rw [if_pos hc, if_pos (by simp [hc])]
        · rw [if_neg hc, if_neg (by simp; omega)]; rfl
      · cases h
    · cases h
  · cases h

end Go.Am

/-
  The logic: append and copy.
-/
namespace Go.Am
open Go Go.RowKit

variable {P : Program} {n0 n : Nat} {t : PT} {h h' h0 : AHeap} {o : Oper} {v x y s : Value} {L L' : List AObj}

theorem xAppend {ats : Array TypeId} {args : Array Operand} {a c : Operand} (ho : o.op = .call { callee := .builtin .append, args := args, argTypes := ats }) (hok : okOper P o = true) (hk : knows t o = true) (hargs : args.toList = [a, c])
    (ha : pevO t a = some s) (hc : pevO t c = some x) (hv : aappend P h ats s x = some (v, h')) : OpX P o t h v h' := by
  refine .eff hok hk (by unfold apure; rw [ho]) ?_
  unfold aeff
  rw [ho]
  simp only [hargs, pev_of ha, pev_of hc, hv, w2, Option.map_some]

theorem OpX.heap {h1 : AHeap} (H : OpX P o t h v h1) (he : h1 = h') : OpX P o t h v h' := he ▸ H

/-- What a slice of one's own holds. -/
theorem first_own {j e size m c : Nat} {cs new : List Value} (hj : L[j]? = some (.cells cs e)) (hm : m * size ≤ cs.length) (hn : cs.take (m * size) = new) : firstOf (ext h0 L) size m (.slice (some ⟨h0.n + j, 0, none⟩) m c) = some new := by
  simp only [firstOf]
  exact readN_own hj (by omega) (by simpa using hn)

theorem first_all {j e size m c : Nat} {cs : List Value} (hj : L[j]? = some (.cells cs e)) (hm : cs.length = m * size) : firstOf (ext h0 L) size m (.slice (some ⟨h0.n + j, 0, none⟩) m c) = some cs :=
  first_own hj (by omega) (by rw [← hm]; simp)

/-- A new block: the capacity is known, and too small. -/
theorem app_new {ats : Array TypeId} {size bytes k sLen sCap m : Nat} {base : Option Addr} {old new : List Value} (hT : appT P ats size bytes = true) (hx : lenOf x = some m) (hb : (sLen + m) * bytes ≤ 140737488355328) (hc : sCap < big) (hm : sCap < sLen + m)
    (hold : firstOf (ext h0 L) size sLen (.slice base sLen sCap) = some old) (hol : old.length = sLen * size) (hnew : firstOf (ext h0 L) size m x = some new) (hnl : new.length = m * size) (hL : L.length = k) (hA : L ++ [.cells (old ++ new) size] = L') :
    aappend P (ext h0 L) ats (.slice base sLen sCap) x = some (.slice (some ⟨h0.n + k, 0, none⟩) (sLen + m) big, ext h0 L') := by
  obtain ⟨_, _, H⟩ := appT_spec hT
  rw [H _ _ _ _ _ _ hx, if_neg (by omega), hnew]
  simp only [hnl, ne_eq, not_true_eq_false, if_false, hc, if_true]
  rw [if_neg (by omega), hold]
  simp only [hol, if_true, ext_n, ext_push, hL, hA]

/-- The old block goes, a new one comes: the capacity is not known. -/
theorem app_own {ats : Array TypeId} {size bytes k j sLen m : Nat} {cs old new : List Value} (hT : appT P ats size bytes = true) (hx : lenOf x = some (m + 1)) (hb : (sLen + (m + 1)) * bytes ≤ 140737488355328)
    (hj : L[j]? = some (.cells cs size)) (hl : sLen * size ≤ cs.length) (hold : cs.take (sLen * size) = old) (hnew : firstOf (ext h0 L) size (m + 1) x = some new) (hnl : new.length = (m + 1) * size) (hcell : new.all isCell = true) (hL : L.length = k)
    (hA : L.set j .dead ++ [.cells (old ++ new) size] = L') :
    ∃ h', (∀ b, h'.get b = (ext h0 L').get b) ∧ (ext h0 L').n = h'.n ∧ aappend P (ext h0 L) ats (.slice (some ⟨h0.n + j, 0, none⟩) sLen big) x = some (.slice (some ⟨h0.n + k, 0, none⟩) (sLen + (m + 1)) big, h') := by
  obtain ⟨_, _, H⟩ := appT_spec hT
  have hjl : j < L.length := (List.getElem?_eq_some_iff.1 hj).1
  obtain ⟨g1, g2⟩ := ext_set (h0 := h0) (o1 := .dead) hjl
  refine ⟨((ext h0 L).set (h0.n + j) .dead).push (.cells (old ++ new) size), fun b => ?_, ?_, ?_⟩
  · rw [← hA, ← ext_push, AHeap.get_push, AHeap.get_push, g1 b, g2]
  · rw [← hA, ← ext_push]; simp [ext_n]
  · have e1 : areadN (ext h0 L) (h0.n + j) 0 (sLen * size) = some old := readN_own hj (by omega) (by simpa using hold)
    have e2 : eszOf (ext h0 L) (h0.n + j) = some size := by simp only [eszOf, ext_own hj]
    rw [H _ _ _ _ _ _ hx, if_neg (by omega), hnew]
    simp only [hnl, ne_eq, not_true_eq_false, if_false, Nat.lt_irrefl, if_true, Nat.add_eq_zero_iff, Nat.one_ne_zero, and_false, e1, e2, hcell, and_self, ext_n, hL]

theorem xAppNew {ats : Array TypeId} {args : Array Operand} {a c : Operand} (size bytes : Nat) {k sLen sCap m : Nat} {base : Option Addr} {old new : List Value} (ho : o.op = .call { callee := .builtin .append, args := args, argTypes := ats }) (hok : okOper P o = true) (hk : knows t o = true) (hargs : args.toList = [a, c])
    (ha : pevO t a = some (.slice base sLen sCap)) (hc : pevO t c = some x) (hT : appT P ats size bytes = true) (hx : lenOf x = some m) (hb : (sLen + m) * bytes ≤ 140737488355328) (hcap : sCap < big) (hm : sCap < sLen + m)
    (hold : firstOf (ext h0 L) size sLen (.slice base sLen sCap) = some old) (hol : old.length = sLen * size) (hnew : firstOf (ext h0 L) size m x = some new) (hnl : new.length = m * size) (hL : L.length = k) (hA : L ++ [.cells (old ++ new) size] = L') :
    OpX P o t (ext h0 L) (.slice (some ⟨h0.n + k, 0, none⟩) (sLen + m) big) (ext h0 L') :=
  xAppend ho hok hk hargs ha hc (app_new hT hx hb hcap hm hold hol hnew hnl hL hA)

theorem xAppOwn {ats : Array TypeId} {args : Array Operand} {a c : Operand} (size bytes : Nat) {k j sLen m : Nat} {cs old new : List Value} (ho : o.op = .call { callee := .builtin .append, args := args, argTypes := ats }) (hok : okOper P o = true) (hk : knows t o = true) (hargs : args.toList = [a, c])
    (ha : pevO t a = some (.slice (some ⟨h0.n + j, 0, none⟩) sLen big)) (hc : pevO t c = some x) (hT : appT P ats size bytes = true) (hx : lenOf x = some (m + 1)) (hb : (sLen + (m + 1)) * bytes ≤ 140737488355328)
    (hj : L[j]? = some (.cells cs size)) (hl : sLen * size ≤ cs.length) (hold : cs.take (sLen * size) = old) (hnew : firstOf (ext h0 L) size (m + 1) x = some new) (hnl : new.length = (m + 1) * size) (hcell : new.all isCell = true) (hL : L.length = k)
    (hA : L.set j .dead ++ [.cells (old ++ new) size] = L') :
    OpX P o t (ext h0 L) (.slice (some ⟨h0.n + k, 0, none⟩) (sLen + (m + 1)) big) (ext h0 L') := by
  obtain ⟨h', g1, g2, g3⟩ := app_own hT hx hb hj hl hold hnew hnl hcell hL hA
  exact (xAppend ho hok hk hargs ha hc g3).same g2 g1

/-- Nothing is appended. -/
theorem xAppNone {ats : Array TypeId} {args : Array Operand} {a c : Operand} (size bytes : Nat) {sLen : Nat} {base : Option Addr} (ho : o.op = .call { callee := .builtin .append, args := args, argTypes := ats }) (hok : okOper P o = true) (hk : knows t o = true) (hargs : args.toList = [a, c])
    (ha : pevO t a = some (.slice base sLen big)) (hc : pevO t c = some x) (hT : appT P ats size bytes = true) (hx : lenOf x = some 0) (hb : sLen * bytes ≤ 140737488355328) (hnew : firstOf h size 0 x = some []) :
    OpX P o t h (.slice base sLen big) h := by
  refine xAppend ho hok hk hargs ha hc ?_
  obtain ⟨_, _, H⟩ := appT_spec hT
  rw [H _ _ _ _ _ _ hx, if_neg (by rw [Nat.add_zero]; omega), hnew]
  simp

/-- The place is there: the capacity is known. -/
theorem xAppIn {ats : Array TypeId} {args : Array Operand} {a c : Operand} (size bytes : Nat) {j e i sLen sCap m : Nat} {cs new : List Value} (ho : o.op = .call { callee := .builtin .append, args := args, argTypes := ats }) (hok : okOper P o = true) (hk : knows t o = true) (hargs : args.toList = [a, c])
    (ha : pevO t a = some (.slice (some ⟨h0.n + j, i, none⟩) sLen sCap)) (hc : pevO t c = some x) (hT : appT P ats size bytes = true) (hx : lenOf x = some m) (hb : (sLen + m) * bytes ≤ 140737488355328) (hcap : sCap < big) (hm : sLen + m ≤ sCap)
    (hnew : firstOf (ext h0 L) size m x = some new) (hnl : new.length = m * size) (hne : new ≠ []) (hj : L[j]? = some (.cells cs e)) (hl : i + sLen * size + new.length ≤ cs.length) (hcell : new.all isCell = true) (hA : L.set j (.cells (setAll cs (i + sLen * size) new) e) = L') :
    OpX P o t (ext h0 L) (.slice (some ⟨h0.n + j, i, none⟩) (sLen + m) sCap) (ext h0 L') := by
  have hjl : j < L.length := (List.getElem?_eq_some_iff.1 hj).1
  obtain ⟨g1, g2⟩ := ext_set (h0 := h0) (o1 := .cells (setAll cs (i + sLen * size) new) e) hjl
  rw [hA] at g1 g2
  refine OpX.same (h1 := (ext h0 L).set (h0.n + j) (.cells (setAll cs (i + sLen * size) new) e)) ?_ g2.symm g1
  refine xAppend ho hok hk hargs ha hc ?_
  obtain ⟨_, _, H⟩ := appT_spec hT
  rw [H _ _ _ _ _ _ hx, if_neg (by omega), hnew]
  simp only [hnl, ne_eq, not_true_eq_false, if_false, hcap, hm, if_true]
  have : awriteAt (ext h0 L) (some ⟨h0.n + j, i, none⟩) (sLen * size) new = some ((ext h0 L).set (h0.n + j) (.cells (setAll cs (i + sLen * size) new) e)) := by
    cases new with
    | nil => exact absurd rfl hne
    | cons v r =>
      simp only [awriteAt, awriteN, ext_own hj, hcell, Bool.and_true]
      rw [if_pos (by simpa using hl)]
  rw [this]
  rfl

end Go.Am

/-
  The logic: ranges over functions, and what a function that has such a range leaves at its end.
-/
namespace Go.Am
open Go Go.RowKit

variable {rr : Bool} {P : Program} {ρ : Ren} {w0 w : World} {h : AHeap} {n0 n : Nat}

theorem lookP_look : ∀ (t : PT) (i : Nat), lookP t i = look? t i
  | [], _ => rfl
  | (d, v) :: r, i => by simp only [lookP, look?, lookP_look r i]

theorem HR.plp (H : HR P ρ w0 h w) {b : Nat} {p : Pl} {l : PLoop} (hp : ρ[b]? = some p) (hg : h.get b = .lp l) : w0.heap.size ≤ p.b ∧ ∃ L, w.heap[p.b]? = some (.loop L) ∧ PLoopR ρ l L := by
  have := (H.obj b p hp).2
  rw [hg] at this
  exact this

theorem HR.setLp (H : HR P ρ w0 h w) {b : Nat} {p : Pl} {l l' : PLoop} {L' : Loop} (hp : ρ[b]? = some p) (hg : h.get b = .lp l) (hl : PLoopR ρ l' L') :
    HR P ρ w0 (h.set b (.lp l')) { w with heap := w.heap.setIfInBounds p.b (.loop L') } := by
  obtain ⟨h1, L, h2, h3⟩ := H.plp hp hg
  exact H.setObj hp (by rw [hg]; rfl) _ _ ⟨h1, L', heap_set_same h2, hl⟩

/-- What is done when a way out of a round is taken up again. -/
def exCode : AEx → Option Code
  | .normal => none
  | .exit id => some (.exit id)
  | .goto l => some (.goto l)
  | .ret => some .ret

/-- Parameters over known slots. -/
def setP (t : PT) : List Tmp → List Value → PT
  | p :: ps, v :: vs => setP ((p, v) :: t) ps vs
  | _, _ => t

theorem setP_sim {n : Nat} : ∀ (ps : List Tmp) (args args' : List Value) (t : PT) (c : Array Value), (ps.all fun p => Nat.blt p n) = true → LR ρ args args' → PR' ρ n t c →
    PR' ρ n (setP t ps args) ((ps.zip args').foldl (fun tmps (x : Tmp × Value) => tmps.setIfInBounds x.1 x.2) c)
  | [], args, args', t, c, _, hl, HT => by simpa [setP] using HT
  | p :: ps, [], args', t, c, _, hl, HT => by rw [hl.nil_left]; simpa [setP] using HT
  | p :: ps, a :: as, args', t, c, hb, hl, HT => by
    obtain ⟨y, ys, rfl, hv, hs⟩ := hl.uncons
    simp only [List.all_cons, Bool.and_eq_true] at hb
    have := PR'.put (ρ := ρ) (a := ⟨c, []⟩) HT (d := some p) (fun i hi => by cases hi; simpa [Nat.blt_eq] using hb.1) hv
    have := setP_sim ps as ys _ _ hb.2 hs this
    simpa [setP, upd, Act.put] using this

/-- What stands at a round's end. -/
def RoundEnd (l : Nat) (K : Value → AHeap → Prop) (e : AEx) (s : AS) : Prop :=
  ∃ pl, s.h.get l = .lp pl ∧ K (.bool (exCode e).isNone) (s.h.set l (.lp { pl with state := if (exCode e).isNone then .ready else .done, pending := exCode e }))

/-- What stands behind the parameters of a round. -/
def RoundMid (P : Program) (l : Nat) (K : Value → AHeap → Prop) (n : Nat) (body : Code) : AEx → AS → Prop
  | .normal, s => ∃ pl, s.h.get l = .lp pl ∧ pl.state = .ready ∧ ∀ N, AW false P N n body (RoundEnd l K) ⟨s.t, s.h.set l (.lp { pl with state := .busy }), s.d⟩
  | _, _ => False

theorem OpK.round {o : Oper} {t : PT} {h : AHeap} {K : Value → AHeap → Prop} {l : Nat} {pl : PLoop} {args : List Value} (hop : aop P (pev t) h o = some (.round l args)) (hk : knows t o = true) (hg : h.get l = .lp pl)
    (hlen : args.length = pl.params.length) (hps : (pl.params.all fun p => Nat.blt p pl.n) = true)
    (H : ∀ N, AW false P N pl.n pl.assign (RoundMid P l K pl.n pl.body) ⟨setP pl.t pl.params args, h, []⟩) : OpK P o t h K := by
  intro ρ w0 w a Hh HT all k rest b todo cs ho hw hbk
  have hok := aop_okOper hop
  obtain ⟨p, args', hp, hl, hexec⟩ := aeff_round (P := P) (w := w) (aop_round hop) (HT.sim Hh hok hk)
  obtain ⟨hb0, L, hL, LR'⟩ := Hh.plp hp hg
  have hsz : args'.size = L.params.size := by
    have e1 := hl.1
    have e2 : L.params.toList.length = pl.params.length := congrArg List.length LR'.params
    simp at e1 e2
    omega
  have hy := run_yield (P := P) hL hsz
  rw [hy] at hexec
  have hstep := stepR_round (P := P) (b := b) (todo := todo) (cs := cs) (rest := rest) ho hw (okOper_defer hok) hexec
  let b' : Frame := { (default : Frame) with fn := L.fn, kind := .normal, roundOf := some p.b }
  let a0 : Act := ⟨(L.params.zip args').foldl (fun tmps (t, a) => tmps.setIfInBounds t a) L.tmps, []⟩
  have hs0 : SR P ρ w0 pl.n ⟨setP pl.t pl.params args, h, []⟩ a0 w := by
    refine ⟨?_, Hh, .nil⟩
    have h0 : PR' ρ pl.n pl.t L.tmps := ⟨LR'.size, fun i v hv => LR'.tmps i v (by rw [lookP_look]; exact hv)⟩
    have := setP_sim pl.params args args'.toList pl.t L.tmps hps hl h0
    rw [← LR'.params] at this ⊢
    show PR' ρ pl.n _ ((L.params.zip args').foldl (fun tmps (x : Tmp × Value) => tmps.setIfInBounds x.1 x.2) L.tmps)
    rw [← Array.foldl_toList, Array.toList_zip]
    exact this
  obtain ⟨e1, s1, ρ1, a1, w1, q1, g1, r1, harr1⟩ := H h.n ρ w0 w b' a0 [.beginRound, .code L.body] (b.atR a (.inRegion all (k :: rest) :: todo) :: cs) hs0 ⟨rfl, fun e => by cases e⟩
  have sub1 : Sub ρ ρ1 := fun b p hp => g1 b p (Hh.lt hp) hp
  cases e1 with
  | exit id => exact q1.elim
  | goto id => exact q1.elim
  | ret => exact q1.elim
  | normal =>
  obtain ⟨pl1, hg1, hst1, H1⟩ := q1
  have hp1 := sub1 _ _ hp
  obtain ⟨_, L1, hL1, LR1⟩ := r1.h.plp hp1 hg1
  have hrun := run_beginRound (P := P) hL1 (LR1.state.trans hst1)
  have hst2 := stepR_beginRound (P := P) (b := b') (a := a1) (k := [.code L.body]) (cs := b.atR a (.inRegion all (k :: rest) :: todo) :: cs) rfl hrun
  have Hh2 := r1.h.setLp (l' := { pl1 with state := .busy }) (L' := { L1 with state := .busy }) hp1 hg1 ⟨rfl, LR1.pending, LR1.size, LR1.tmps, LR1.params, LR1.assign, LR1.body⟩
  have hbody : L.body = pl.body := LR'.body
  have hassign : L.assign = pl.assign := LR'.assign
  obtain ⟨e2, s2, ρ2, a2, w2, ⟨pl2, hg2, hK⟩, g2, r2, harr2⟩ := H1 s1.h.n ρ1 w0 _ b' a1 [] (b.atR a (.inRegion all (k :: rest) :: todo) :: cs) ⟨r1.t, Hh2, r1.d⟩ ⟨rfl, fun e => by cases e⟩
  have sub2 : Sub ρ1 ρ2 := fun b p hp => g2 b p (r1.h.lt hp) hp
  have hp2 := sub2 _ _ hp1
  obtain ⟨_, L2, hL2, LR2⟩ := r2.h.plp hp2 hg2
  have hend := run_endRound (P := P) hL2 (exCode e2)
  have Hh3 := r2.h.setLp (l' := { pl2 with state := if (exCode e2).isNone then .ready else .done, pending := exCode e2 }) (L' := { L2 with state := if (exCode e2).isNone then .ready else .done, pending := exCode e2 }) hp2 hg2
    ⟨rfl, rfl, LR2.size, LR2.tmps, LR2.params, LR2.assign, LR2.body⟩
  have hfin : ∀ v', (b.atR a (.inRegion all (k :: rest) :: todo)).finish v' = b.atR (a.put o.dst v') (.inRegion all rest :: todo) := by
    intro v'; rw [Frame.finish_atR, ho]; rfl
  have hstart : Steps P (lone (b.atR a (.inRegion all (k :: rest) :: todo)) cs w) (lone (b'.atR a1 [.code pl.body]) (b.atR a (.inRegion all (k :: rest) :: todo) :: cs) { w1 with heap := w1.heap.setIfInBounds p.b (.loop { L1 with state := .busy }) }) := by
    rw [hbody] at hst2 harr1
    rw [← hassign] at harr1
    refine .head hstep (Steps.trans ?_ (.one hst2))
    rw [← hbody] at harr1 ⊢
    exact harr1
  refine ⟨ρ2, _, .bool (exCode e2).isNone, _, _, hK, sub1.trans sub2, Hh3, .bool _, hstart.trans ?_⟩
  rw [← hfin]
  cases e2 with
  | normal =>
    exact Steps.trans harr2 (.one (stepR_round_end (l := p.b) rfl rfl hend))
  | exit id =>
    obtain ⟨k1, hk1, hst⟩ := harr2
    exact hst.trans (.one (stepR_round_exit (l := p.b) rfl rfl (by rw [hk1]; rfl) hend))
  | goto id =>
    obtain ⟨k1, hk1, hst⟩ := harr2
    exact hst.trans (.one (stepR_round_goto (l := p.b) rfl rfl (by rw [hk1]; rfl) hend))
  | ret =>
    obtain ⟨k1, hst⟩ := harr2
    exact hst.trans (.one (stepR_round_ret (l := p.b) rfl rfl hend))

/-- What stands behind the function that was ranged over. -/
def RangeEnd (l : Nat) (t : PT) (d : List Nat) (Q : AEx → AS → Prop) (h : AHeap) : Prop :=
  ∃ pl e, h.get l = .lp pl ∧ pl.state ≠ .busy ∧ pl.pending = exCode e ∧ Q e ⟨t, h.set l (.lp { pl with state := .exhausted }), d⟩

theorem AW.rangeFunc (Kp : POk P) {x : Operand} {params : Array Tmp} {assign body : Code} {Q : AEx → AS → Prop} {s : AS} {g : FuncId} {first captured : Array Value} (hx : okOperand P x = true) (hkn : ∀ i, x = .tmp i → (look? s.t i).isSome = true)
    (hv : pev s.t x = .func (.func g) first captured) {fn : Func} (hf : P.funcs[g]? = some fn) (hb : fn.body.isSome = true)
    (H : ACalls P g (first.toList ++ [.func (.yield (s.h.n + 1)) #[] #[]] ++ captured.toList) ((s.h.push (.deferred false)).push (.lp ⟨.ready, none, n, s.t, params.toList, assign, body⟩))
      (fun _ h' => RangeEnd (s.h.n + 1) s.t (s.h.n :: s.d) Q h')) : AW true P n0 n (.rangeFunc x params assign body) Q s := by
  intro ρ w0 w b a k cs hs hbk
  have Hh := hs.h
  have hro : b.roundOf = none := hbk.2 rfl
  have hvr : VR ρ (pev s.t x) (a.eval x) := by
    cases x with
    | tmp i =>
      have h1 := hkn i rfl
      rw [Option.isSome_iff_exists] at h1
      obtain ⟨v, hv'⟩ := h1
      have := hs.t.known i v hv'
      simpa [pev, hv', Act.eval] using this
    | const v => exact plainV_sim hx
    | global g =>
      obtain ⟨p, hp, hb, hs⟩ := Hh.glob g (by simpa [okOperand, Nat.blt_eq] using hx)
      have := VR.ptr (ρ := ρ) 0 hp
      rw [hb, hs] at this
      simpa [Act.eval, pev] using this
    | func g => exact .func _ _ _ _ _ _ (.func g) rfl (fun i x y h => by simp at h) rfl (fun i x y h => by simp at h)
  rw [hv] at hvr
  generalize hfv : a.eval x = fv at hvr
  cases hvr with
  | func _ g' xs ys us vs hfn a1 a2 b1 b2 =>
  cases hfn
  have hb3 : ¬ fn.name = "runtime.NumGoroutine" := by simpa using Kp.names g fn hf
  obtain ⟨L, hL⟩ : ∃ L : Loop, L = { state := .ready, pending := none, fn := b.fn, tmps := a.tmps, params := params, assign := assign, body := body, defers := w.heap.size } := ⟨_, rfl⟩
  have H1 := Hh.alloc (.deferred (some [])) (.deferred false) ⟨w.heap.size, 0, 0, 0⟩ rfl ⟨Hh.below.size, by show (w.heap.push _)[w.heap.size]? = _; simp⟩
  have hlast1 := Hh.last ⟨w.heap.size, 0, 0, 0⟩
  have H2 := H1.alloc (.loop L)
    (.lp ⟨.ready, none, n, s.t, params.toList, assign, body⟩) ⟨w.heap.size + 1, 0, 0, 0⟩ (by show _ = (w.heap.push _).size; simp)
    ⟨by have := Hh.below.size; show w0.heap.size ≤ w.heap.size + 1; omega, L, pushed2 _ _ _, by
      subst hL
      refine ⟨rfl, rfl, hs.t.size, fun i v hv => ?_, rfl, rfl, rfl⟩
      rw [lookP_look] at hv
      exact ((hs.t.known i v hv).mono (Sub.append _ _)).mono (Sub.append _ _)⟩
  have hlast2 := H1.last ⟨w.heap.size + 1, 0, 0, 0⟩
  simp only [AHeap.n_push] at hlast2
  have hsb : Sub ρ (ρ ++ [⟨w.heap.size, 0, 0, 0⟩] ++ [⟨w.heap.size + 1, 0, 0, 0⟩]) := (Sub.append _ _).trans (Sub.append _ _)
  have he : (Instr.enterLoop b.fn a.tmps params assign body b.roundOf).run P w = .ok (w.heap.size + 1, [{ target := .collected w.heap.size, args := #[] }])
      { { w with heap := w.heap.push (.deferred (some [])) } with heap := (w.heap.push (.deferred (some []))).push (.loop L) } := by
    rw [hro, hL]; simp [Instr.enterLoop]; rfl
  have hstep := stepR_rangeFunc (P := P) (b := b) (a := a) (k := k) (cs := cs) (g := x) (f := g) (args := (ys ++ #[Value.func (.yield (w.heap.size + 1)) #[] #[]]) ++ vs) he
    (d := { target := .fn (.func g) vs, args := ys ++ #[Value.func (.yield (w.heap.size + 1)) #[] #[]] })
    (run_resolve_range hfv _)
    (by cases hbo : fn.body with
        | none => rw [hbo] at hb; cases hb
        | some bd' => simp [invoke, callFunc, hf, hb3, hbo]; rfl)
  have hlr : LR (ρ ++ [⟨w.heap.size, 0, 0, 0⟩] ++ [⟨w.heap.size + 1, 0, 0, 0⟩]) (first.toList ++ [Value.func (.yield (s.h.n + 1)) #[] #[]] ++ captured.toList) ((ys ++ #[Value.func (.yield (w.heap.size + 1)) #[] #[]]) ++ vs).toList := by
    simp only [Array.toList_append]
    exact (((LR.of_arrays a1 a2).mono hsb).append (LR.cons (.func _ _ _ _ _ _ (.yield hlast2) rfl (fun i x y h => by simp at h) rfl (fun i x y h => by simp at h)) (LR.nil _))).append ((LR.of_arrays b1 b2).mono hsb)
  obtain ⟨e, w1, fr, ⟨ρ1, v, v', h1, ⟨pl, ex, hg, hst, hpe, hQ⟩, rfl, hs1, H', hv'⟩, hcomes, _, hleave⟩ := H _ w0 _ _ H2 hlr (b.atR { a with defers := { target := .collected w.heap.size, args := #[] } :: a.defers } (.inRangeFunc (w.heap.size + 1) :: k) :: cs)
  have hp1 := hs1 _ _ hlast2
  obtain ⟨_, L1, hL1, LR1⟩ := H'.plp hp1 hg
  have hend := run_endLoop (P := P) hL1 (by rw [LR1.state]; exact hst)
  have Hh3 := H'.setLp (l' := { pl with state := .exhausted }) (L' := { L1 with state := .exhausted }) hp1 hg ⟨rfl, LR1.pending, LR1.size, LR1.tmps, LR1.params, LR1.assign, LR1.body⟩
  have hpd : L1.pending = exCode ex := LR1.pending.trans hpe
  replace hend : (Instr.endLoop (w.heap.size + 1)).run P w1 = .ok (exCode ex) { w1 with heap := w1.heap.setIfInBounds (w.heap.size + 1) (.loop { L1 with state := .exhausted }) } := by
    rw [← hpd]; exact hend
  have hsteps : Steps P (lone (b.atR a (.code (.rangeFunc x params assign body) :: k)) cs w) (lone (b.atR { a with defers := { target := .collected w.heap.size, args := #[] } :: a.defers } (((exCode ex).map Item.code).toList ++ k)) cs { w1 with heap := w1.heap.setIfInBounds (w.heap.size + 1) (.loop { L1 with state := .exhausted }) }) := by
    have hst3 := stepR_endRangeFunc (P := P) (b := b) (a := { a with defers := { target := .collected w.heap.size, args := #[] } :: a.defers }) (k := k) (cs := cs) (l := w.heap.size + 1) hend
    refine .head hstep (Steps.trans hcomes (.head ?_ (.one hst3)))
    rw [← finish_atR_inRangeFunc _ v']
    exact step_leave_returned hleave
  have hSR : SR P ρ1 w0 n ⟨s.t, h1.set (s.h.n + 1) (.lp { pl with state := .exhausted }), s.h.n :: s.d⟩ { a with defers := { target := .collected w.heap.size, args := #[] } :: a.defers } { w1 with heap := w1.heap.setIfInBounds (w.heap.size + 1) (.loop { L1 with state := .exhausted }) } := by
    refine ⟨(hs.t.mono hsb).mono hs1, Hh3, .cons (p := ⟨w.heap.size, 0, 0, 0⟩) (hs1 _ _ (Sub.append _ _ _ _ hlast1)) ((hs.d.mono hsb).mono hs1)⟩
  refine ⟨ex, _, ρ1, _, _, hQ, (hsb.trans hs1).agree n0, hSR, ?_⟩
  cases ex with
  | normal => exact hsteps
  | exit id => exact ⟨k, rfl, hsteps⟩
  | goto l => exact ⟨k, rfl, hsteps⟩
  | ret => exact ⟨k, hsteps⟩

/-! At a function's end. -/

def killA (h : AHeap) : List Nat → AHeap
  | [] => h
  | b :: r => killA (h.set b (.deferred true)) r

/-- What a range has left to be done at the end of a function. -/
def Left (h : AHeap) : List Nat → Prop
  | [] => True
  | b :: r => h.get b = .deferred false ∧ b ∉ r ∧ Left h r

theorem Left.set {h : AHeap} {b : Nat} {o : AObj} : ∀ {r : List Nat}, b ∉ r → Left h r → Left (h.set b o) r
  | [], _, _ => trivial
  | c :: r, hn, ⟨h1, h2, h3⟩ => by
    have : c ≠ b := fun e => hn (by rw [e]; simp)
    exact ⟨by rw [AHeap.get_set, if_neg this]; exact h1, h2, Left.set (fun hm => hn (by simp [hm])) h3⟩

theorem unwind_sim {cs : List Frame} : ∀ (ds : List Nat) (h : AHeap) (fr : Frame) (w : World), HR P ρ w0 h w → Left h ds → DR ρ ds fr.defers → fr.mode = .returning →
    ∃ w', HR P ρ w0 (killA h ds) w' ∧ Steps P (lone fr cs w) (lone { fr with defers := [] } cs w')
  | [], h, fr, w, H, _, hd, _ => by
    have : fr.defers = [] := by cases fr; simp at hd ⊢; cases hd; rfl
    refine ⟨w, H, ?_⟩
    have e : ({ fr with defers := [] } : Frame) = fr := by cases fr; simp at this; subst this; rfl
    rw [e]; exact .refl _ _
  | b :: ds, h, fr, w, H, ⟨h1, h2, h3⟩, hd, hm => by
    generalize hfd : fr.defers = fd at hd
    cases hd with
    | @cons _ p _ ds' hp hds =>
    obtain ⟨g1, g2⟩ := H.obj b p hp
    rw [h1] at g2
    obtain ⟨g3, g4⟩ := g2
    simp only [Bool.false_eq_true, if_false] at g4
    have H' : HR P ρ w0 (h.set b (.deferred true)) { w with heap := w.heap.setIfInBounds p.b (.deferred none) } :=
      H.setObj hp (by rw [h1]; rfl) _ _ ⟨g3, heap_set_same g4⟩
    have hstep := step_uncollect (P := P) (fr := fr) (cs := cs) (w := w) (b := p.b) (ds := ds') hm hfd g4
    obtain ⟨w', k1, k2⟩ := unwind_sim ds (h.set b (.deferred true)) { fr with defers := ds' } _ H' (Left.set h2 h3) hds hm
    exact ⟨w', k1, .head hstep k2⟩

/-- What stands at a function's end, where ranges have left something. -/
def FnEndL (P : Program) (fn : Func) (R : Value → AHeap → Prop) : AEx → AS → Prop
  | .normal, s | .ret, s => Left s.h s.d ∧ ∃ v, presults P fn ⟨s.t, killA s.h s.d, []⟩ = some v ∧ R v (killA s.h s.d)
  | _, _ => False

theorem ACalls.of_bodyL {f : FuncId} {fn : Func} {c : Code} {args : List Value} {h : AHeap} {R : Value → AHeap → Prop} (hf : P.funcs[f]? = some fn) (hb : fn.body = some c) (hn : args.length ≤ fn.ntmps)
    (H : ∀ N, AW Bool.true P N fn.ntmps c (FnEndL P fn R) ⟨argsPT 0 args, h, []⟩) : ACalls P f args h R := by
  intro ρ w0 w args' Hh hl cs
  let b : Frame := { (default : Frame) with fn := f, kind := .normal, roundOf := none }
  have henter : Frame.enter P f args' .normal = b.atR { tmps := args' ++ Array.replicate (fn.ntmps - args'.size) undef, defers := [] } [.code c] := by
    simp [Frame.enter, Frame.atR, hf, hb, b]
  have hsz : args.length = args'.size := by simpa using hl.1
  have hs : SR P ρ w0 fn.ntmps ⟨argsPT 0 args, h, []⟩ { tmps := args' ++ Array.replicate (fn.ntmps - args'.size) undef, defers := [] } w := by
    refine ⟨⟨by simp; omega, fun i v hv => ?_⟩, Hh, .nil⟩
    obtain ⟨_, h2⟩ := argsPT_look args 0 i v hv
    simp only [Nat.sub_zero] at h2
    obtain ⟨y, hy, hvr⟩ := hl.get h2
    have e : (args' ++ Array.replicate (fn.ntmps - args'.size) undef).getD i undef = y := by
      have hi : i < args'.size := by have := (List.getElem?_eq_some_iff.1 h2).1; omega
      simp only [Array.getD_eq_getD_getElem?]
      rw [Array.getElem?_append_left hi]
      simp at hy
      simp [hy]
    rw [e]; exact hvr
  obtain ⟨e, s1, ρ1, a1, w1, q, g1, r1, harr⟩ := H h.n ρ w0 w b _ [] cs hs ⟨rfl, fun _ => rfl⟩
  rw [← henter] at harr
  have sub : Sub ρ ρ1 := fun b p hp => g1 b p (Hh.lt hp) hp
  have fin : (Left s1.h s1.d ∧ ∃ v, presults P fn ⟨s1.t, killA s1.h s1.d, []⟩ = some v ∧ R v (killA s1.h s1.d)) → ∀ fr, Steps P (lone (Frame.enter P f args' .normal) cs w) (lone fr cs w1) → fr.fn = f → fr.mode = .returning → fr.kind = .normal → fr.tmps = a1.tmps → fr.defers = a1.defers →
      ∃ e w' fr, (∃ ρ' v v' h', R v h' ∧ e = .returned v' ∧ Sub ρ ρ' ∧ HR P ρ' w0 h' w' ∧ VR ρ' v v') ∧ Comes P (lone (Frame.enter P f args' .normal) cs w) (lone fr cs w') e ∧ fr.fn = f ∧ fr.leaving P w' e := by
    rintro ⟨hd, v, hv, hR⟩ fr hst h1 h2 h3 h4 h5
    obtain ⟨w2, H2, hst2⟩ := unwind_sim (cs := cs) s1.d s1.h fr w1 r1.h hd (by rw [h5]; exact r1.d) h2
    have r2 : SR P ρ1 w0 fn.ntmps ⟨s1.t, killA s1.h s1.d, []⟩ { a1 with defers := [] } w2 := ⟨r1.t, H2, .nil⟩
    obtain ⟨v', hr, hvr⟩ := presults_sim r2 hv
    exact ⟨.returned v', w2, { fr with defers := [] }, ⟨ρ1, v, v', _, hR, rfl, sub, H2, hvr⟩, hst.trans hst2, h1, h2, rfl, h3, fn, by rw [← hf, ← h1], by show (results fn fr.tmps).run P w2 = _; rw [h4]; exact hr⟩
  cases e with
  | normal =>
    refine fin q _ (Steps.trans harr (.one (stepR_end ?_))) ?_ rfl ?_ rfl rfl <;> rfl
  | ret =>
    obtain ⟨k1, hst⟩ := harr
    refine fin q _ (hst.trans (.one (stepR_ret ?_))) ?_ rfl ?_ rfl rfl <;> rfl
  | exit id => exact q.elim
  | goto l => exact q.elim

end Go.Am

/-
  A law's call that leaves all blocks alone that were there: what the statement asks behind it.
-/
namespace Go.Am
open Go Go.ChangeShapes Go.WideShapes Go.ChangeAt Go.RowKit

variable {H : Type} {enc : TypeId × Value → H} {P : Program}

theorem post_below {f : Func} {s : ChangeSpec} {apart fresh handsOn again : Bool} {W W' : World} {args : Array Value} {v : Value} {ds gs : List (DataW H)} {before pa pv : List MemPlace}
    (hW : DataW.Whole enc P f.params.toList s.vars apart W args.toList ds gs before)
    (hres : ∀ (b : Nat) (sp : Nat → Bool) (hd : Bool), DataW.TrodAll enc P W' b sp hd f.resultTypes.toList (v.resultList f.resultTypes.size) (s.fn H (ds ++ gs)).results [])
    (hargs : ∀ sp : Nat → Bool, (∀ p ∈ before, sp p.block = true) → DataW.TrodAll enc P W' 0 sp true f.params.toList args.toList (s.fn H (ds ++ gs)).args pa)
    (hvars : ∀ sp : Nat → Bool, (∀ p ∈ before, sp p.block = true) → DataW.TrodVars enc P W' sp s.vars (s.fn H (ds ++ gs)).vars pv)
    (hps : before = pa ++ pv) (hB : Below W.heap.size W W')
    (hok : ∀ (j : Nat) (t : TypeId) (r : Value), f.resultTypes[j]? = some t → (v.resultList f.resultTypes.size)[j]? = some r → Value.okWide P W' .any 0 t r) :
    s.post enc P f apart fresh handsOn again W args v W' := by
  have hlt := hW.lt
  have hold : ∀ p ∈ before, (fun b => decide (b < W.heap.size)) p.block = true := fun p hp => by simpa using hlt p hp
  refine ⟨ds, gs, before, [], pa, pv, hW, hres _ _ _, hargs _ hold, hvars _ hold, World.keptBut_mono (fun p hp => ⟨hp, ?_⟩) (hB.frame (· ∈ before)), fun _ => ?_⟩
  · rw [hps, List.mem_append] at hp
    exact Or.inr hp
  · obtain ⟨_, _, _, _, _, hz, hn⟩ := hW
    refine ⟨hok, _, _, ([] ++ pa) ++ pv, ⟨[] ++ pa, pv, trodAll_append (hargs _ (fun _ _ => rfl)) (hres _ _ _), hvars _ (fun _ _ => rfl), rfl, ?_, ?_⟩, ?_⟩
    · intro b off hp
      have hp' : MemPlace.cell b off ∈ before := by rw [hps]; simpa using hp
      rw [hB.frozen (p := ⟨b, off, none⟩) (hlt _ hp')]
      exact hz b off hp'
    · intro ha
      have := hn ha
      rw [hps] at this
      simpa using this
    · intro p hp _
      rw [hps]
      simpa using hp

end Go.Am

