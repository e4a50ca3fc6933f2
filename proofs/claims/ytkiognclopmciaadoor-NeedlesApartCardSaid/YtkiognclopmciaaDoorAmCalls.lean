/-
  The abstract machine: a run that ends is a call that returns, in whatever world.
-/
import Derived.Test.YtkiognclopmciaaDoorAmMain
namespace Go.Am
open Go Go.RowKit

variable {P : Program} {ρ : Ren} {w0 w : World} {h : AHeap} {cs0 : List Frame}

/-! The function at the bottom stays. -/

def lastFn (f : FuncId) : List AFrame → FuncId
  | [] => f
  | c :: cs => lastFn c.fn cs

def root (s : AState) : FuncId := lastFn s.cur.fn s.callers

theorem finish_fn {c c' : AFrame} {v : Value} (hf : c.finish v = some c') : c'.fn = c.fn := by
  unfold AFrame.finish at hf
  split at hf
  · split at hf
    · cases hf; rfl
    · cases hf
  · cases hf; rfl
  · cases hf

theorem aleave_root {fr : AFrame} {callers : List AFrame} {jump : Option Code} {s' : AState} (hr : aleave fr callers h jump = some (.next s')) : root s' = lastFn fr.fn callers := by
  obtain ⟨fn, tmps, todo, ro, ds, ret⟩ := fr
  unfold aleave at hr
  cases ro with
  | none =>
    simp only at hr
    split at hr
    · simp only [if_true, Option.some.injEq, AStep.next.injEq] at hr; subst hr; rfl
    · simp only [if_true, Option.some.injEq, AStep.next.injEq] at hr; subst hr; rfl
    · simp at hr
  | some l =>
    simp only at hr
    split at hr
    · split at hr
      · rename_i c' hc
        cases hr
        simp only [root, lastFn, finish_fn hc]
      · cases hr
    · cases hr

theorem aenter_root {callers : List AFrame} {f : FuncId} {args : List Value} {s' : AState} (hf : aenter P callers h f args = some (.next s')) : root s' = lastFn f callers := by
  obtain ⟨fn, body, _, _, _, rfl⟩ := aenter_spec hf
  rfl

theorem astep_root {s s' : AState} (hr : astep P s = some (.next s')) : root s' = root s := by
  obtain ⟨⟨fn, tmps, todo, ro, ds, ret⟩, callers, h⟩ := s
  cases ret with
  | true =>
    simp only [astep] at hr
    split at hr
    · split at hr
      · cases hr; rfl
      · cases hr
    · split at hr
      · split at hr
        · split at hr
          · cases hr
          · split at hr
            · rename_i c' hc; cases hr; simp only [root, lastFn, finish_fn hc]
            · cases hr
        · cases hr
      · cases hr
  | false =>
    cases todo with
    | nil => simp only [astep] at hr; exact aleave_root hr
    | cons x k =>
      cases x with
      | inBlock id => simp only [astep] at hr; cases hr; rfl
      | inScope c => simp only [astep] at hr; cases hr; rfl
      | inLoop c => simp only [astep] at hr; cases hr; rfl
      | inRangeFunc l => simp only [astep] at hr; cases hr
      | endRangeFunc l =>
        simp only [astep] at hr
        split at hr
        · split at hr
          · cases hr
          · cases hr; rfl
        · cases hr
      | beginRound =>
        simp only [astep] at hr
        split at hr
        · split at hr
          · cases hr; rfl
          · cases hr
        · cases hr
      | ops all i l =>
        simp only [astep] at hr
        split at hr
        · cases hr
        · cases hr; rfl
        · split at hr
          · have e := aenter_root hr; exact e
          · split at hr
            · split at hr
              · cases hr
                rename_i hg
                simp only [root, lastFn]
              · cases hr
            · cases hr
          · cases hr
      | code c =>
        cases c with
        | skip => simp only [astep] at hr; cases hr; rfl
        | label l => simp only [astep] at hr; cases hr; rfl
        | seq c d => simp only [astep] at hr; cases hr; rfl
        | block id c => simp only [astep] at hr; cases hr; rfl
        | loop c => simp only [astep] at hr; cases hr; rfl
        | scope c => simp only [astep] at hr; cases hr; rfl
        | refuse why => simp only [astep] at hr; cases hr
        | ret => simp only [astep] at hr; exact aleave_root hr
        | cond c thn els =>
          simp only [astep] at hr
          split at hr
          · cases hr; rfl
          · cases hr
        | exit id =>
          simp only [astep] at hr
          split at hr
          · cases hr; rfl
          · exact aleave_root hr
        | goto id =>
          simp only [astep] at hr
          split at hr
          · cases hr; rfl
          · exact aleave_root hr
        | region id ops draw =>
          cases draw with
          | false => simp only [astep, cond_false] at hr; cases hr; rfl
          | true =>
            simp only [astep, cond_true] at hr
            cases hok : regionOk ops with
            | false => simp [hok] at hr
            | true =>
              simp only [hok, cond_true] at hr
              split at hr
              · cases hr; rfl
              · cases hr
        | rangeFunc f params assign body =>
          simp only [astep] at hr
          split at hr
          · cases hr
          · split at hr
            · split at hr
              · have e := aenter_root hr; exact e
              · split at hr
                · have e := aenter_root hr; exact e
                · cases hr
            · cases hr

theorem step_sim (K : POk P) {s s' : AState} {fr : Frame} {cs : List Frame} (hr : astep P s = some (.next s')) (H : MR P ρ w0 cs0 s fr cs w) : Sim P w0 cs0 s' fr cs w := by
  obtain ⟨⟨fn, tmps, todo, ro, ds, ret⟩, callers, h⟩ := s
  cases ret with
  | true => exact ret_sim hr H
  | false => exact run_sim K hr H

/-- The last step. -/
theorem done_sim {s : AState} {v : Value} {h' : AHeap} {fr : Frame} {cs : List Frame} (hr : astep P s = some (.done v h')) (H : MR P ρ w0 cs0 s fr cs w) :
    h' = s.h ∧ s.callers = [] ∧ cs = cs0 ∧ ∃ v', fr.leaving P w (.returned v') ∧ VR ρ v v' := by
  obtain ⟨⟨fn, tmps, todo, ro, ds, ret⟩, callers, h⟩ := s
  obtain ⟨F, Cs, Hh⟩ := H
  have noleave : ∀ {fr callers h jump v h'}, aleave fr callers h jump = some (.done v h') → False := by
    intro fr callers h jump v h' hr
    obtain ⟨fn, tmps, todo, ro, ds, ret⟩ := fr
    unfold aleave at hr
    cases ro with
    | none => simp only at hr; split at hr <;> simp at hr
    | some l =>
      simp only at hr
      split at hr
      · split at hr <;> cases hr
      · cases hr
  cases ret with
  | true =>
    simp only [astep] at hr
    split at hr
    · split at hr <;> cases hr
    · split at hr
      · rename_i f hf
        split at hr
        · rename_i u hu
          split at hr
          · cases hr
            obtain ⟨v', h1, h2⟩ := aresults_sim Hh F.tmps hu
            have hd : DR ρ [] fr.defers := F.defers
            generalize hfd : fr.defers = fd at hd
            cases hd
            cases Cs
            have hfn : fr.fn = fn := F.fn
            exact ⟨rfl, rfl, rfl, v', ⟨F.mode, hfd, F.kind, f, by rw [hfn]; exact hf, h1⟩, h2⟩
          · split at hr <;> cases hr
        · cases hr
      · cases hr
  | false =>
    exfalso
    cases todo with
    | nil => simp only [astep] at hr; exact noleave hr
    | cons x k =>
      cases x with
      | inBlock id => simp only [astep] at hr; cases hr
      | inScope c => simp only [astep] at hr; cases hr
      | inLoop c => simp only [astep] at hr; cases hr
      | inRangeFunc l => simp only [astep] at hr; cases hr
      | endRangeFunc l =>
        simp only [astep] at hr
        split at hr
        · split at hr <;> cases hr
        · cases hr
      | beginRound =>
        simp only [astep] at hr
        split at hr
        · split at hr <;> cases hr
        · cases hr
      | ops all i l =>
        simp only [astep] at hr
        split at hr
        · cases hr
        · cases hr
        · split at hr
          · exact aenter_not_done hr
          · split at hr
            · split at hr <;> cases hr
            · cases hr
          · cases hr
      | code c =>
        cases c with
        | skip => simp only [astep] at hr; cases hr
        | label l => simp only [astep] at hr; cases hr
        | seq c d => simp only [astep] at hr; cases hr
        | block id c => simp only [astep] at hr; cases hr
        | loop c => simp only [astep] at hr; cases hr
        | scope c => simp only [astep] at hr; cases hr
        | refuse why => simp only [astep] at hr; cases hr
        | ret => simp only [astep] at hr; exact noleave hr
        | cond c thn els => simp only [astep] at hr; split at hr <;> cases hr
        | exit id =>
          simp only [astep] at hr
          split at hr
          · cases hr
          · exact noleave hr
        | goto id =>
          simp only [astep] at hr
          split at hr
          · cases hr
          · exact noleave hr
        | region id ops draw =>
          cases draw with
          | false => simp only [astep, cond_false] at hr; cases hr
          | true =>
            simp only [astep, cond_true] at hr
            cases hok : regionOk ops with
            | false => simp [hok] at hr
            | true => simp only [hok, cond_true] at hr; split at hr <;> cases hr
        | rangeFunc f params assign body =>
          simp only [astep] at hr
          split at hr
          · cases hr
          · split at hr
            · split at hr
              · exact aenter_not_done hr
              · split at hr
                · exact aenter_not_done hr
                · cases hr
            · cases hr

theorem arun_sim (K : POk P) : ∀ (n : Nat) (s : AState) (v : Value) (h' : AHeap) (ρ : Ren) (fr : Frame) (cs : List Frame) (w : World), arun P n s = some (v, h') → MR P ρ w0 cs0 s fr cs w →
    ∃ ρ' fr' w' v', Steps P (lone fr cs w) (lone fr' cs0 w') ∧ fr'.fn = root s ∧ fr'.leaving P w' (.returned v') ∧ VR ρ' v v' ∧ HR P ρ' w0 h' w' := by
  intro n
  induction n with
  | zero => intro s v h' ρ fr cs w hr; simp [arun] at hr
  | succ n ih =>
    intro s v h' ρ fr cs w hr H
    simp only [arun] at hr
    split at hr
    · rename_i s' hs
      obtain ⟨ρ1, fr1, cs1, w1, hst, H1⟩ := step_sim K hs H
      obtain ⟨ρ2, fr2, w2, v', h1, h2, h3, h4, h5⟩ := ih s' v h' ρ1 fr1 cs1 w1 hr H1
      exact ⟨ρ2, fr2, w2, v', hst.trans h1, h2.trans (astep_root hs), h3, h4, h5⟩
    · rename_i u hu hs
      cases hr
      obtain ⟨rfl, hc, rfl, v', h1, h2⟩ := done_sim hs H
      refine ⟨ρ, fr, w, v', Steps.refl _ _, ?_, h1, h2, H.heap⟩
      rw [H.cur.fn]
      unfold root
      rw [hc]
      rfl
    · cases hr

/-- A run that ends is a call that returns. -/
theorem calls_of_arun (K : POk P) {n : Nat} {f : FuncId} {fn : Func} {args : List Value} {args' : Array Value} {v : Value} {h h' : AHeap} (hf : P.funcs[f]? = some fn) {body : Code} (hb : fn.body = some body)
    (hn : args.length ≤ fn.ntmps) (hr : arun P n (enterState P f args h) = some (v, h')) (Hh : HR P ρ w0 h w) (hl : LR ρ args args'.toList) :
    Calls P f args' w fun e w' => ∃ ρ' v', e = .returned v' ∧ VR ρ' v v' ∧ HR P ρ' w0 h' w' := by
  intro cs
  have he : enterState P f args h = ⟨⟨f, ⟨fn.ntmps, Tmps.fill .nil 0 args⟩, [.code body], none, [], false⟩, [], h⟩ := by
    simp [enterState, hf, hb]
  rw [he] at hr
  obtain ⟨ρ', fr', w', v', h1, h2, h3, h4, h5⟩ := arun_sim (cs0 := cs) K n _ v h' ρ (Frame.enter P f args' .normal) cs w hr ⟨enter_sim hf hb hl hn, .nil, Hh⟩
  exact ⟨.returned v', w', fr', ⟨ρ', v', rfl, h4, h5⟩, h1, h2, h3⟩

/-- The heap before a closed call: the program's variables alone, of which nothing is known. -/
def noHeap (P : Program) : AHeap := ⟨P.globals.size, .nil⟩

def noRen : Nat → Ren
  | 0 => []
  | n + 1 => noRen n ++ [⟨n, 0, 0, 0⟩]

theorem noRen_length : ∀ n, (noRen n).length = n
  | 0 => rfl
  | n + 1 => by simp [noRen, noRen_length n]

theorem noRen_get : ∀ (n g : Nat), g < n → (noRen n)[g]? = some ⟨g, 0, 0, 0⟩
  | 0, g, h => by omega
  | n + 1, g, h => by
    simp only [noRen]
    by_cases hg : g < n
    · rw [List.getElem?_append_left (by rw [noRen_length]; exact hg)]; exact noRen_get n g hg
    · have : g = n := by omega
      subst this
      rw [List.getElem?_append_right (by rw [noRen_length]; exact Nat.le_refl _), noRen_length]
      simp

theorem HR.start (hG : P.globals.size ≤ w.heap.size) : HR P (noRen P.globals.size) w (noHeap P) w where
  len := noRen_length _
  gone := fun b _ => rfl
  obj := fun b p hp => by
    have hb : b < P.globals.size := by have := (List.getElem?_eq_some_iff.1 hp).1; rw [noRen_length] at this; exact this
    rw [noRen_get _ _ hb] at hp
    cases hp
    exact ⟨by simp only; omega, trivial⟩
  inj := fun b c p q _ _ _ hb => by
    have : (noHeap P).get b = .dead := rfl
    rw [this] at hb
    cases hb
  below := Below.refl _ _
  glob := fun g hg => ⟨_, noRen_get _ _ hg, rfl, rfl⟩

def boolTrue : Option (Value × AHeap) → Bool
  | some (.bool b, _) => b
  | _ => false

/-- A closed call that returns true. -/
theorem calls_true (K : POk P) {n : Nat} {f : FuncId} {fn : Func} {body : Code} (hf : P.funcs[f]? = some fn) (hb : fn.body = some body)
    (hr : boolTrue (arun P n (enterState P f [] (noHeap P))) = true) (hG : P.globals.size ≤ w.heap.size) :
    Calls P f #[] w fun e w' => e = .returned (.bool true) ∧ Below w.heap.size w w' := by
  cases hx : arun P n (enterState P f [] (noHeap P)) with
  | none => rw [hx] at hr; cases hr
  | some x =>
    obtain ⟨v, h'⟩ := x
    rw [hx] at hr
    cases v <;> simp [boolTrue] at hr
    subst hr
    refine (calls_of_arun K hf hb (Nat.zero_le _) hx (HR.start (w := w) hG) (LR.nil _)).mono ?_
    rintro e w' ⟨ρ', v', rfl, hv, H⟩
    cases hv
    exact ⟨rfl, H.below⟩

theorem POk.of_check (h1 : P.follows .mixedOrders = true) (h2 : (P.funcs.toList.all fun fn => !(fn.name == "runtime.NumGoroutine")) = true) : POk P :=
  ⟨h1, fun f fn hf => by
    have := List.all_eq_true.1 h2 fn (Array.mem_toList_iff.2 (Array.mem_of_getElem? hf))
    simpa using this⟩

end Go.Am
