/-
  The logic: operations, regions, functions; a heap is cut down to what is used.
-/
import Derived.Test.YtkiognclopmciaaDoorAmLogic
namespace Go.Am
open Go Go.RowKit

variable {P : Program} {n0 n : Nat} {Q : AEx → AS → Prop} {s : AS}

/-- The slots that an operation looks at. -/
def OT (ρ : Ren) (t : PT) (o : Oper) (a : Act) : Prop := ∀ (i : Nat) (v : Value), Operand.tmp i ∈ o.op.operands.toList → look? t i = some v → VR ρ v (a.tmps.getD i undef)

theorem OT.of {ρ : Ren} {t : PT} {o : Oper} {a : Act} (H : PR' ρ n t a.tmps) : OT ρ t o a := fun i v _ hv => H.known i v hv

theorem OT.sim {ρ : Ren} {w0 w : World} {h : AHeap} (H : HR P ρ w0 h w) {t : PT} {a : Act} {o : Oper} (HT : OT ρ t o a) (ho : okOper P o = true) (hk : knows t o = true) :
    ∀ x ∈ o.op.operands.toList, VR ρ (pev t x) (a.eval x) := by
  have hall : o.op.operands.toList.all (okOperand P) = true := by
    unfold okOper at ho
    split at ho
    · cases ho
    · cases ho
    · exact ho
  intro x hx
  have hok := List.all_eq_true.1 hall x hx
  have hkn := List.all_eq_true.1 hk x hx
  cases x with
  | tmp i =>
    simp only [Option.isSome_iff_exists] at hkn
    obtain ⟨v, hv⟩ := hkn
    have := HT i v hx hv
    simpa [pev, hv, Act.eval] using this
  | const v => exact plainV_sim hok
  | global g =>
    obtain ⟨p, hp, hb, hs⟩ := H.glob g (by simpa [okOperand, Nat.blt_eq] using hok)
    have := VR.ptr (ρ := ρ) 0 hp
    rw [hb, hs] at this
    simpa [Act.eval, pev] using this
  | func g => exact .func _ _ _ _ _ _ (.func g) rfl (fun i x y h => by simp at h) rfl (fun i x y h => by simp at h)

/-- One operation that runs: what it yields and leaves. -/
def OpK (P : Program) (o : Oper) (t : PT) (h : AHeap) (K : Value → AHeap → Prop) : Prop :=
  ∀ (ρ : Ren) (w0 w : World) (a : Act), HR P ρ w0 h w → OT ρ t o a →
    ∀ (all : Array Oper) (k : Nat) (rest : List Nat) (b : Frame) (todo : List Item) (cs : List Frame), all[k]? = some o → Region.wanted o (yielded all a.tmps) = true → b.kind = .normal →
    ∃ ρ' v v' h' w', K v h' ∧ Sub ρ ρ' ∧ HR P ρ' w0 h' w' ∧ VR ρ' v v' ∧
      Steps P (lone (b.atR a (.inRegion all (k :: rest) :: todo)) cs w) (lone (b.atR (a.put o.dst v') (.inRegion all rest :: todo)) cs w')

theorem OpK.mono {o : Oper} {t : PT} {h : AHeap} {K K' : Value → AHeap → Prop} (H : OpK P o t h K) (hk : ∀ v h', K v h' → K' v h') : OpK P o t h K' :=
  fun ρ w0 w a Hh HT all k rest b todo cs ho hw hb => let ⟨ρ', v, v', h', w', q, r⟩ := H ρ w0 w a Hh HT all k rest b todo cs ho hw hb; ⟨ρ', v, v', h', w', hk v h' q, r⟩

theorem OpK.value {o : Oper} {t : PT} {h h' : AHeap} {v : Value} {K : Value → AHeap → Prop} (hop : aop P (pev t) h o = some (.value v h')) (hk : knows t o = true) (hK : K v h') : OpK P o t h K := by
  intro ρ w0 w a H HT all k rest b todo cs ho hw _
  have hok := aop_okOper hop
  obtain ⟨ρ', v', nx, w', hr, hn, hs, H', hv⟩ := aop_value H hop (fun ho => HT.sim H ho hk)
  exact ⟨ρ', v, v', h', w', hK, hs, H', hv, .one (stepR_value ho hw (okOper_defer hok) hr hn)⟩

theorem OpK.call (Kp : POk P) {o : Oper} {t : PT} {h : AHeap} {K : Value → AHeap → Prop} {f : FuncId} {args : List Value} (hop : aop P (pev t) h o = some (.enter f args h)) (hk : knows t o = true) {fn : Func}
    (hf : P.funcs[f]? = some fn) (hb : fn.body.isSome = true) (H : ACalls P f args h K) : OpK P o t h K := by
  intro ρ w0 w a Hh HT all k rest b todo cs ho hw hbk
  have hok := aop_okOper hop
  obtain ⟨_, args', hl, hexec⟩ := aeff_enter (P := P) (w := w) (aop_enter hop) (HT.sim Hh hok hk)
  have hex := hexec fn hf hb (Kp.names f fn hf)
  obtain ⟨e, w1, fr, ⟨ρ', v, v', h', hK, rfl, hs, H', hv⟩, hcomes, _, hleave⟩ := H ρ w0 w args' Hh hl (b.atR a (.inRegion all (k :: rest) :: todo) :: cs)
  refine ⟨ρ', v, v', h', w1, hK, hs, H', hv, .head (stepR_enter ho hw (okOper_defer hok) hex) (Steps.trans hcomes (.one ?_))⟩
  have hfin : (b.atR a (.inRegion all (k :: rest) :: todo)).finish v' = b.atR (a.put o.dst v') (.inRegion all rest :: todo) := by
    rw [Frame.finish_atR, ho]; rfl
  rw [← hfin]
  exact step_leave_returned hleave

/-- Is an operation carried out? -/
def pwanted (all : Array Oper) (t : PT) (o : Oper) : Option Bool :=
  match o.guard with
  | none => some true
  | some (j, want) =>
    match (all.toList[j]?).bind (·.dst) with
    | some d =>
      match look? t d with
      | some (.bool b) => some (b == want)
      | some (.tuple _) => some false
      | _ => none
    | none => none

theorem pwanted_sim {ρ : Ren} {t : PT} {c : Array Value} {all : Array Oper} {o : Oper} {r : Bool} (H : PR' ρ n t c) (hd : ∀ (j : Nat) (o' : Oper), all[j]? = some o' → ∀ d, o'.dst = some d → d < n) (hp : pwanted all t o = some r) :
    Region.wanted o (yielded all c) = r := by
  unfold pwanted at hp
  unfold Region.wanted
  split at hp
  · rename_i hg
    rw [hg]; cases hp; rfl
  · rename_i j want hg
    rw [hg]
    simp only
    split at hp
    · rename_i d hjd
      have hjd' : ((all[j]?).bind (·.dst) : Option Nat) = some d := by simpa using hjd
      have hlt : d < n := by
        cases ho : all[j]? with
        | none => rw [ho] at hjd'; cases hjd'
        | some o' => rw [ho] at hjd'; exact hd j o' ho d hjd'
      have e2 : c[d]? = some (c.getD d undef) := by
        have : d < c.size := by rw [H.size]; exact hlt
        simp [this]
      have hy : yielded all c j = match c.getD d undef with | .bool b => some b | _ => none := by
        unfold yielded
        rw [hjd']
        simp only [Option.bind_some, e2]
        cases c.getD d undef <;> rfl
      rw [hy]
      split at hp
      · rename_i b hb
        have hv := H.known d _ hb
        generalize c.getD d undef = y at hv
        cases hv
        cases hp
        simp
      · rename_i u hb
        have hv := H.known d _ hb
        generalize c.getD d undef = y at hv
        cases hv
        cases hp
        rfl
      · cases hp
    · cases hp

/-- Operations one behind the other. -/
def AOps (P : Program) (n : Nat) (all : Array Oper) (K : AS → Prop) : List Oper → AS → Prop
  | [], s => K s
  | o :: r, s =>
    (pwanted all s.t o = some true ∧ OpK P o s.t s.h (fun v h' => AOps P n all K r ⟨upd s.t o.dst v, h', s.d⟩)) ∨
    (pwanted all s.t o = some false ∧ AOps P n all K r ⟨upd s.t o.dst undef, s.h, s.d⟩)

def dstOk (n : Nat) (all : Array Oper) : Bool := all.toList.all fun o => match o.dst with | some d => Nat.blt d n | none => true

theorem dstOk_spec {all : Array Oper} (h : dstOk n all = true) : ∀ (j : Nat) (o : Oper), all[j]? = some o → ∀ d, o.dst = some d → d < n := by
  intro j o ho d hd
  have := List.all_eq_true.1 h o (Array.mem_toList_iff.2 (Array.mem_of_getElem? ho))
  rw [hd] at this
  simpa [Nat.blt_eq] using this

theorem AOps.sound {all : Array Oper} (hd : dstOk n all = true) {K : AS → Prop} (b : Frame) (hbk : b.kind = .normal) (todo : List Item) (cs : List Frame) : ∀ (rest : List Oper) (k : Nat) (s : AS) (ρ : Ren) (w0 w : World) (a : Act),
    AOps P n all K rest s → rest = all.toList.drop k → k ≤ all.size → SR P ρ w0 n s a w →
    ∃ s' ρ' a' w', K s' ∧ Sub ρ ρ' ∧ SR P ρ' w0 n s' a' w' ∧ Steps P (lone (b.atR a (.inRegion all (List.range' k (all.size - k)) :: todo)) cs w) (lone (b.atR a' todo) cs w') := by
  have hd' := dstOk_spec hd
  intro rest
  induction rest with
  | nil =>
    intro k s ρ w0 w a H hr hk hs
    have hlen : all.size ≤ k := by simpa using List.drop_eq_nil_iff.1 hr.symm
    have : all.size - k = 0 := by omega
    rw [this]
    exact ⟨s, ρ, a, w, H, .refl ρ, hs, .one stepR_region_end⟩
  | cons o rest ih =>
    intro k s ρ w0 w a H hr hk hs
    obtain ⟨hlt, ho, hrest⟩ := drop_cons hr.symm
    rw [range'_cons hlt]
    rcases H with ⟨hw, H⟩ | ⟨hw, H⟩
    · have hw' := pwanted_sim hs.t hd' hw
      obtain ⟨ρ1, v, v', h1, w1, hK, hs1, H1, hv, hst⟩ := H ρ w0 w a hs.h (OT.of hs.t) all k (List.range' (k + 1) (all.size - (k + 1))) b todo cs ho hw' hbk
      have hdd : (a.put o.dst v').defers = a.defers := by cases o.dst <;> rfl
      obtain ⟨s2, ρ2, a2, w2, hK2, hs2, H2, hst2⟩ := ih (k + 1) _ ρ1 w0 w1 (a.put o.dst v') hK hrest hlt ⟨(hs.t.mono hs1).put (fun i hi => hd' k o ho i hi) hv, H1, by rw [hdd]; exact hs.d.mono hs1⟩
      exact ⟨s2, ρ2, a2, w2, hK2, hs1.trans hs2, H2, hst.trans hst2⟩
    · have hw' := pwanted_sim hs.t hd' hw
      have hstep := stepR_op_skip (P := P) (b := b) (a := a) (k := todo) (cs := cs) (w := w) (ops := all) (i := k) (rest := List.range' (k + 1) (all.size - (k + 1))) (by simp [ho, hw'])
      simp only [ho, Option.bind_some] at hstep
      have hdd : (a.put o.dst undef).defers = a.defers := by cases o.dst <;> rfl
      obtain ⟨s2, ρ2, a2, w2, hK2, hs2, H2, hst2⟩ := ih (k + 1) _ ρ w0 w (a.put o.dst undef) H hrest hlt ⟨hs.t.put (fun i hi => hd' k o ho i hi) (VR.undef ρ), hs.h, by rw [hdd]; exact hs.d⟩
      exact ⟨s2, ρ2, a2, w2, hK2, hs2, H2, .head hstep hst2⟩

theorem AW.region {id : Nat} {ops : Array Oper} (hd : dstOk n ops = true) (H : AOps P n ops (Q .normal) ops.toList s) : AW P n0 n (.region id ops false) Q s := by
  intro ρ w0 w b a k cs hs hb
  obtain ⟨s1, ρ1, a1, w1, hK, hs1, H1, hst⟩ := AOps.sound hd b hb k cs ops.toList 0 s ρ w0 w a H (by simp) (Nat.zero_le _) hs
  refine ⟨.normal, s1, ρ1, a1, w1, hK, hs1.agree n0, H1, .head stepR_region ?_⟩
  simpa [List.range_eq_range'] using hst

theorem AOps.val {all : Array Oper} {K : AS → Prop} {o : Oper} {r : List Oper} {t : PT} {h h' : AHeap} {d : List Nat} {v : Value} (hw : pwanted all t o = some true) (hk : knows t o = true) (hop : aop P (pev t) h o = some (.value v h'))
    (next : AOps P n all K r ⟨upd t o.dst v, h', d⟩) : AOps P n all K (o :: r) ⟨t, h, d⟩ := .inl ⟨hw, .value hop hk next⟩

theorem AOps.off {all : Array Oper} {K : AS → Prop} {o : Oper} {r : List Oper} {t : PT} {h : AHeap} {d : List Nat} (hw : pwanted all t o = some false)
    (next : AOps P n all K r ⟨upd t o.dst undef, h, d⟩) : AOps P n all K (o :: r) ⟨t, h, d⟩ := .inr ⟨hw, next⟩

theorem AOps.call (Kp : POk P) {all : Array Oper} {K : AS → Prop} {o : Oper} {r : List Oper} {t : PT} {h : AHeap} {d : List Nat} {f : FuncId} {args : List Value} {fn : Func} (hw : pwanted all t o = some true) (hk : knows t o = true)
    (hop : aop P (pev t) h o = some (.enter f args h)) (hf : P.funcs[f]? = some fn) (hb : fn.body.isSome = true) (H : ACalls P f args h (fun v h' => AOps P n all K r ⟨upd t o.dst v, h', d⟩)) :
    AOps P n all K (o :: r) ⟨t, h, d⟩ := .inl ⟨hw, .call Kp hop hk hf hb H⟩

/-! Functions. -/

def argsPT : Nat → List Value → PT
  | _, [] => []
  | i, v :: r => (i, v) :: argsPT (i + 1) r

theorem argsPT_look : ∀ (vs : List Value) (i j : Nat) (v : Value), look? (argsPT i vs) j = some v → i ≤ j ∧ vs[j - i]? = some v
  | [], i, j, v, h => by cases h
  | x :: vs, i, j, v, h => by
    simp only [argsPT, look?] at h
    by_cases hji : j = i
    · subst hji
      simp at h
      subst h
      simp
    · rw [beq_no hji] at h
      simp only [cond_false] at h
      obtain ⟨h1, h2⟩ := argsPT_look vs (i + 1) j v h
      refine ⟨by omega, ?_⟩
      rw [show j - i = (j - (i + 1)) + 1 from by omega]
      exact h2

def prv (P : Program) (s : AS) : ResultVar → Option Value
  | .tmp i => look? s.t i
  | .cell a ty => (look? s.t a).bind (aload P s.h ty)

def presults (P : Program) (fn : Func) (s : AS) : Option Value :=
  match fn.results.toList.mapM (prv P s) with
  | some [v] => some v
  | some vs => some (.tuple vs.toArray)
  | none => none

theorem prv_sim {ρ : Ren} {w0 w : World} {a : Act} (H : SR P ρ w0 n s a w) {x : ResultVar} {v : Value} (hf : prv P s x = some v) : ∃ v', (rvC a.tmps x).run P w = .ok v' w ∧ VR ρ v v' := by
  cases x with
  | tmp i => exact ⟨_, rfl, H.t.known i v hf⟩
  | cell ad ty =>
    simp only [prv, Option.bind_eq_some_iff] at hf
    obtain ⟨x, hx, hl⟩ := hf
    have hv := H.t.known ad x hx
    obtain ⟨v', h3, h4⟩ := aload_sim H.h hl hv
    have hp : ∃ ad', a.tmps.getD ad undef = .pointer (some ad') := by
      unfold aload at hl
      split at hl
      · generalize a.tmps.getD ad undef = y at hv
        cases hv
        exact ⟨_, rfl⟩
      · cases hl
    obtain ⟨ad', had⟩ := hp
    rw [had] at h3
    simp only [Instr.loadAt, Instr.sureAddr, Sem.run_bind, Sem.run_pure, Result.andThen_ok] at h3
    exact ⟨v', by simp only [rvC, Sem.run_bind, had, asAddr, Sem.run_pure, Result.andThen_ok, h3], h4⟩

theorem prvs_sim {ρ : Ren} {w0 w : World} {a : Act} (H : SR P ρ w0 n s a w) : ∀ (l : List ResultVar) (vs : List Value), l.mapM (prv P s) = some vs → ∃ vs', (l.mapM (rvC a.tmps)).run P w = .ok vs' w ∧ LR ρ vs vs'
  | [], vs, hv => by simp at hv; subst hv; exact ⟨[], rfl, LR.nil ρ⟩
  | x :: l, vs, hv => by
    simp only [List.mapM_cons, Option.bind_eq_bind, Option.pure_def] at hv
    cases hx : prv P s x with
    | none => simp [hx] at hv
    | some v =>
      cases hr : l.mapM (prv P s) with
      | none => simp [hx, hr] at hv
      | some rest =>
        simp only [hx, hr, Option.bind_some, Option.some.injEq] at hv
        subst hv
        obtain ⟨v', h3, h4⟩ := prv_sim H hx
        obtain ⟨vs', h1, h2⟩ := prvs_sim H l rest hr
        exact ⟨v' :: vs', by simp only [List.mapM_cons, Sem.run_bind, Sem.run_pure, Result.andThen_ok, h3, h1], LR.cons h4 h2⟩

theorem presults_sim {ρ : Ren} {w0 w : World} {a : Act} (H : SR P ρ w0 n s a w) {fn : Func} {v : Value} (hf : presults P fn s = some v) : ∃ v', (results fn a.tmps).run P w = .ok v' w ∧ VR ρ v v' := by
  unfold presults at hf
  cases hm : fn.results.toList.mapM (prv P s) with
  | none => simp [hm] at hf
  | some vs =>
    obtain ⟨vs', h1, h2⟩ := prvs_sim H _ _ hm
    have hrun : (fn.results.mapM (rvC a.tmps)).run P w = .ok vs'.toArray w := by
      rw [Array.mapM_eq_mapM_toList]
      simp only [Sem.run_map, h1, Result.andThen_ok]
    have hres : (results fn a.tmps).run P w = .ok (if hh : vs'.toArray.size = 1 then vs'.toArray[0] else .tuple vs'.toArray) w := by
      rw [results_eq]
      simp only [Sem.run_bind, hrun, Result.andThen_ok, Sem.run_pure]
    rw [hm] at hf
    match vs, hf, h2 with
    | [v1], hf, h2 =>
      simp only [Option.some.injEq] at hf
      subst hf
      obtain ⟨y, ys, rfl, hv, hs⟩ := h2.uncons
      have := hs.nil_left
      subst this
      exact ⟨y, by rw [hres]; simp, hv⟩
    | [], hf, h2 =>
      simp only [Option.some.injEq] at hf
      subst hf
      have := h2.nil_left
      subst this
      exact ⟨_, by rw [hres]; simp, VR.tuple_of (LR.nil ρ)⟩
    | a :: b :: r, hf, h2 =>
      simp only [Option.some.injEq] at hf
      subst hf
      have hl : ¬ vs'.toArray.size = 1 := by
        have := h2.1
        simp at this ⊢
        omega
      exact ⟨_, by rw [hres, dif_neg hl], VR.tuple_of h2⟩

/-- What stands at a function's end. -/
def FnEnd (P : Program) (fn : Func) (R : Value → AHeap → Prop) : AEx → AS → Prop
  | .normal, s | .ret, s => s.d = [] ∧ ∃ v, presults P fn s = some v ∧ R v s.h
  | _, _ => False

theorem ACalls.of_body {f : FuncId} {fn : Func} {c : Code} {args : List Value} {h : AHeap} {R : Value → AHeap → Prop} (hf : P.funcs[f]? = some fn) (hb : fn.body = some c) (hn : args.length ≤ fn.ntmps)
    (H : AW P h.n fn.ntmps c (FnEnd P fn R) ⟨argsPT 0 args, h, []⟩) : ACalls P f args h R := by
  intro ρ w0 w args' Hh hl cs
  let b : Frame := { (default : Frame) with fn := f, kind := .normal, roundOf := none }
  have henter : Frame.enter P f args' .normal = b.atR { tmps := args' ++ Array.replicate (fn.ntmps - args'.size) undef, defers := [] } [.code c] := by
    simp [Frame.enter, Frame.atR, hf, hb, b]
  have hsz : args.length = args'.size := by simpa using hl.1
  have hs : SR P ρ w0 fn.ntmps ⟨argsPT 0 args, h, []⟩ { tmps := args' ++ Array.replicate (fn.ntmps - args'.size) undef, defers := [] } w := by
    refine ⟨⟨by simp; omega, fun i v hv => ?_⟩, Hh, .nil⟩
    obtain ⟨_, h2⟩ := argsPT_look args 0 i v hv
    simp only [Nat.sub_zero] at h2
    obtain ⟨y, hy, hvr⟩ := hl.get h2
    have e : (args' ++ Array.replicate (fn.ntmps - args'.size) undef).getD i undef = y := by
      have hi : i < args'.size := by have := (List.getElem?_eq_some_iff.1 h2).1; omega
      simp only [Array.getD_eq_getD_getElem?]
      rw [Array.getElem?_append_left hi]
      simp at hy
      simp [hy]
    rw [e]; exact hvr
  obtain ⟨e, s1, ρ1, a1, w1, q, g1, r1, harr⟩ := H ρ w0 w b _ [] cs hs rfl
  rw [← henter] at harr
  have sub : Sub ρ ρ1 := fun b p hp => g1 b p (Hh.lt hp) hp
  have fin : (s1.d = [] ∧ ∃ v, presults P fn s1 = some v ∧ R v s1.h) → ∀ fr, Steps P (lone (Frame.enter P f args' .normal) cs w) (lone fr cs w1) → fr.fn = f → fr.mode = .returning → fr.kind = .normal → fr.tmps = a1.tmps → fr.defers = a1.defers →
      ∃ e w' fr, (∃ ρ' v v' h', R v h' ∧ e = .returned v' ∧ Sub ρ ρ' ∧ HR P ρ' w0 h' w' ∧ VR ρ' v v') ∧ Comes P (lone (Frame.enter P f args' .normal) cs w) (lone fr cs w') e ∧ fr.fn = f ∧ fr.leaving P w' e := by
    rintro ⟨hd, v, hv, hR⟩ fr hst h1 h2 h3 h4 h5
    obtain ⟨v', hr, hvr⟩ := presults_sim r1 hv
    have hdn : fr.defers = [] := by
      have := r1.d
      rw [hd] at this
      rw [h5]
      generalize a1.defers = x at this
      cases this
      rfl
    exact ⟨.returned v', w1, fr, ⟨ρ1, v, v', s1.h, hR, rfl, sub, r1.h, hvr⟩, hst, h1, h2, hdn, h3, fn, by rw [h1]; exact hf, by rw [h4]; exact hr⟩
  cases e with
  | normal =>
    refine fin q _ (Steps.trans harr (.one (stepR_end ?_))) ?_ rfl ?_ rfl rfl <;> rfl
  | ret =>
    obtain ⟨k1, hst⟩ := harr
    refine fin q _ (hst.trans (.one (stepR_ret ?_))) ?_ rfl ?_ rfl rfl <;> rfl
  | exit id => exact q.elim
  | goto l => exact q.elim

/-- A contract is a call of the model's. -/
theorem ACalls.calls {f : FuncId} {args : List Value} {h : AHeap} {R : Value → AHeap → Prop} {ρ : Ren} {w0 w : World} {args' : Array Value} (H : ACalls P f args h R) (Hh : HR P ρ w0 h w) (hl : LR ρ args args'.toList) :
    Calls P f args' w fun e w' => ∃ ρ' v v' h', R v h' ∧ e = .returned v' ∧ Sub ρ ρ' ∧ HR P ρ' w0 h' w' ∧ VR ρ' v v' := H ρ w0 w args' Hh hl

end Go.Am
