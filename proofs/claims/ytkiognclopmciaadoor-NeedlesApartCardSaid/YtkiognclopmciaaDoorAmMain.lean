/-
  The abstract machine: a run that ends is a call that returns.
-/
import Derived.Test.YtkiognclopmciaaDoorAmSim
namespace Go.Am
open Go Go.RowKit

variable {P : Program} {ρ : Ren} {w0 w : World} {h : AHeap} {cs0 : List Frame}

theorem aop_enter {ev : Operand → Value} {o : Oper} {f : FuncId} {args : List Value} {h2 : AHeap} (hop : aop P ev h o = some (.enter f args h2)) : aeff P ev h o = some (.enter f args h2) := by
  unfold aop at hop
  cases hc : okOper P o with
  | false => simp [hc] at hop
  | true =>
    simp only [hc, cond_true] at hop
    split at hop
    · cases hop
    · exact hop

theorem aop_round {ev : Operand → Value} {o : Oper} {l : Nat} {args : List Value} (hop : aop P ev h o = some (.round l args)) : aeff P ev h o = some (.round l args) := by
  unfold aop at hop
  cases hc : okOper P o with
  | false => simp [hc] at hop
  | true =>
    simp only [hc, cond_true] at hop
    split at hop
    · cases hop
    · exact hop

/-- Operations one behind the other, and then the end of the region or a call. -/
theorem ops_sim (K : POk P) {fn : FuncId} {tmps : Tmps} {all : Array Oper} {i : Nat} {ks : List AItem} {ro : Option Nat} {ds : List Nat} {callers : List AFrame} {s' : AState} {b : Frame} {a : Act} {k : List Item} {cs : List Frame}
    (hi : i ≤ all.size) (hr : astep P ⟨⟨fn, tmps, .ops all i (all.toList.drop i) :: ks, ro, ds, false⟩, callers, h⟩ = some (.next s'))
    (h1 : b.fn = fn) (HT : TR ρ tmps a.tmps) (hk : TodoR ρ ks k) (hro : RO ρ ro b.roundOf) (hds : DR ρ ds a.defers) (hkind : b.kind = .normal) (Cs : CR ρ cs0 callers cs) (Hh : HR P ρ w0 h w) :
    Sim P w0 cs0 s' (b.atR a (.inRegion all (List.range' i (all.size - i)) :: k)) cs w := by
  simp only [astep] at hr
  split at hr
  · cases hr
  · rename_i tmps' h' k' hgo
    cases hr
    obtain ⟨ρ', a', w', hs, HT', hd', H', hrest, hk', hw', hst⟩ := goOps_sim (b := b) (todo := k) (cs := cs) _ _ _ _ _ _ _ _ ρ a w hgo rfl hi HT Hh
    have hfull : all.size ≤ k' := by
      have := List.drop_eq_nil_iff.1 hrest.symm
      simpa using this
    have : all.size - k' = 0 := by omega
    rw [this] at hst
    refine ⟨ρ', _, cs, w', hst.trans (.one stepR_region_end), ⟨FR.of_atR h1 HT' (hk.mono hs) (hro.mono hs) (by rw [hd']; exact hds.mono hs) hkind, Cs.mono hs, H'⟩⟩
  · rename_i tmps' h' k' o rest hgo
    obtain ⟨ρ', a', w', hs, HT', hd', H', hrest, hk', hw', hst⟩ := goOps_sim (b := b) (todo := k) (cs := cs) _ _ _ _ _ _ _ _ ρ a w hgo rfl hi HT Hh
    obtain ⟨hlt, ho, hrest'⟩ := drop_cons hrest.symm
    have hwant : Region.wanted o (yielded all a'.tmps) = true := by
      rw [← wanted_sim HT']; exact hw' o rest rfl
    have hcaller : FR ρ' ⟨fn, tmps', .ops all k' (o :: rest) :: ks, ro, ds, false⟩ (b.atR a' (.inRegion all (List.range' k' (all.size - k')) :: k)) := by
      rw [hrest]
      exact FR.of_atR h1 HT' (.cons (.ops all k' hk') (hk.mono hs)) (hro.mono hs) (by rw [hd']; exact hds.mono hs) hkind
    split at hr
    · rename_i f args h2 hop
      have hok := aop_okOper hop
      have hop' := aop_enter hop
      obtain ⟨rfl, args', hl, hexec⟩ := aeff_enter (P := P) (w := w') hop' (aev_sim H' HT' hok)
      obtain ⟨fn', body, hf, hb, hn1, rfl⟩ := aenter_spec hr
      obtain ⟨hb1, hb2⟩ := K.step_enter hf hb
      have hstep := stepR_enter (P := P) (b := b) (todo := k) (cs := cs) (rest := List.range' (k' + 1) (all.size - (k' + 1))) ho hwant (okOper_defer hok) (hexec fn' hf hb1 hb2)
      rw [← range'_cons hlt] at hstep
      exact ⟨ρ', _, _, w', hst.trans (.one hstep), ⟨enter_sim hf hb hl hn1, .cons hcaller (Cs.mono hs), H'⟩⟩
    · rename_i l args hop
      have hok := aop_okOper hop
      have hop' := aop_round hop
      split at hr
      · rename_i st pd lf lt lp la lb ld hg
        split at hr
        · rename_i lt' hsp
          cases hr
          obtain ⟨p, args', hp, hl, hexec⟩ := aeff_round (P := P) (w := w') hop' (aev_sim H' HT' hok)
          obtain ⟨hb0, L, hL, LR'⟩ := H'.loop hp hg
          have hps := setParams_sim lp args args'.toList lt lt' L.tmps hsp hl LR'.tmps
          have hsz : args'.size = L.params.size := by
            have e1 := hps.2
            have e2 := hl.1
            have e3 : L.params.toList.length = lp.length := congrArg List.length LR'.params
            simp at e2 e3
            omega
          have hy := run_yield (P := P) hL hsz
          rw [hy] at hexec
          have hstep := stepR_round (P := P) (b := b) (todo := k) (cs := cs) (rest := List.range' (k' + 1) (all.size - (k' + 1))) ho hwant (okOper_defer hok) hexec
          rw [← range'_cons hlt] at hstep
          refine ⟨ρ', _, _, w', hst.trans (.one hstep), ⟨⟨LR'.fn.symm ▸ rfl, ?_, ?_, .some hp, .nil, rfl, rfl⟩, .cons hcaller (Cs.mono hs), H'⟩⟩
          · have := hps.1
            have e0 : L.params.toList = lp := LR'.params
            rw [← e0] at this
            show TR ρ' lt' ((L.params.zip args').foldl (fun tmps (x : Tmp × Value) => tmps.setIfInBounds x.1 x.2) L.tmps)
            rw [← Array.foldl_toList, Array.toList_zip]
            exact this
          · have e1 := LR'.assign
            have e2 := LR'.body
            simp only at e1 e2
            show TodoR ρ' _ [.code L.assign, .beginRound, .code L.body]
            rw [e1, e2]
            exact .cons (.code _) (.cons .beginRound (.cons (.code _) .nil))
        · cases hr
      · cases hr
    · cases hr

theorem pushed2 (a : Array Obj) (x y : Obj) : ((a.push x).push y)[a.size + 1]? = some y := by
  have e : (a.push x).size = a.size + 1 := Array.size_push _
  rw [← e]; exact Array.getElem?_push_size

theorem run_resolve_range {a : Act} {f : Operand} {l : Nat} {g : FuncId} {ys vs : Array Value} (hfv : a.eval f = .func (.func g) ys vs) (w : World) :
    (resolve a.eval (rangeCall f l) 0).run P w = .ok { target := .fn (.func g) vs, args := ys ++ #[.func (.yield l) #[] #[]] } w := by
  have h1 : (rangeCall f l).args.map a.eval = #[.func (.yield l) #[] #[]] := by simp [Act.eval]
  have : resolve a.eval (rangeCall f l) 0 = Deferred.ofValue (a.eval f) ((rangeCall f l).args.map a.eval) := rfl
  rw [this, h1, hfv]
  simp [Deferred.ofValue]

/-- A frame that runs. -/
theorem run_sim (K : POk P) {fn : FuncId} {tmps : Tmps} {todo : List AItem} {ro : Option Nat} {ds : List Nat} {callers : List AFrame} {s' : AState} {fr : Frame} {cs : List Frame}
    (hr : astep P ⟨⟨fn, tmps, todo, ro, ds, false⟩, callers, h⟩ = some (.next s')) (H : MR P ρ w0 cs0 ⟨⟨fn, tmps, todo, ro, ds, false⟩, callers, h⟩ fr cs w) : Sim P w0 cs0 s' fr cs w := by
  have H0 := H
  obtain ⟨F, Cs, Hh⟩ := H
  have hfr := F.atR rfl
  obtain ⟨h1, HT, htodo, hro, hds, hmode, hkind⟩ := F
  generalize ha : (⟨fr.tmps, fr.defers⟩ : Act) = a at hfr
  have HTa : TR ρ tmps a.tmps := by rw [← ha]; exact HT
  have hdsa : DR ρ ds a.defers := by rw [← ha]; exact hds
  clear HT hds
  replace htodo : TodoR ρ todo fr.todo := htodo
  replace h1 : fr.fn = fn := h1
  replace hro : RO ρ ro fr.roundOf := hro
  replace Hh : HR P ρ w0 h w := Hh
  replace Cs : CR ρ cs0 callers cs := Cs
  generalize hcf : fr.todo = ct at htodo hfr
  -- a step to another list
  have to : ∀ (k : List AItem) (k' : List Item), TodoR ρ k k' → step P (lone (fr.atR a ct) cs w) = .next (lone (fr.atR a k') cs w) → s' = ⟨⟨fn, tmps, k, ro, ds, false⟩, callers, h⟩ → Sim P w0 cs0 s' fr cs w := fun k k' hk hs he => by
    subst he
    rw [← hfr] at hs
    exact .of_one hs ⟨FR.of_atR h1 HTa hk hro hdsa hkind, Cs, Hh⟩
  have leave : ∀ (jump : Option Code) (r : AStep), aleave ⟨fn, tmps, todo, ro, ds, false⟩ callers h jump = some r → r = .next s' →
      (fr.roundOf = none → (jump = none ∨ jump = some .ret) → step P (lone (fr.atR a ct) cs w) = .next (lone { fr.atR a ct with mode := .returning } cs w)) →
      (∀ l c cs' v w', fr.roundOf = some l → cs = c :: cs' → (Instr.endRound l jump).run P w = .ok v w' → step P (lone (fr.atR a ct) cs w) = .next (lone (c.finish v) cs' w')) → Sim P w0 cs0 s' fr cs w := by
    intro jump r hrr hs hend hround
    rw [← hfr] at hend hround
    exact aleave_sim hrr hs H0 hend hround
  cases htodo with
  | nil =>
    simp only [astep] at hr
    exact leave none _ hr rfl (fun hn _ => stepR_end hn) (fun l c cs' v w' hl hc hrun => by subst hc; exact stepR_round_end hl hkind hrun)
  | cons hx hk =>
    rename_i x y ks k
    cases hx with
    | inBlock id => simp only [astep] at hr; cases hr; exact to _ _ hk stepR_inBlock rfl
    | inScope c => simp only [astep] at hr; cases hr; exact to _ _ hk (step_lone_go (by simp [stepG, stepG.exec, Frame.atR])) rfl
    | inLoop c => simp only [astep] at hr; cases hr; exact to _ _ (.cons (.code c) (.cons (.inLoop c) hk)) stepR_inLoop rfl
    | inRangeFunc hp => simp only [astep] at hr; cases hr
    | endRangeFunc hp =>
      rename_i l p
      simp only [astep] at hr
      split at hr
      · rename_i st lpd lf lt lp la lb ld hg
        obtain ⟨hb0, L, hL, LR'⟩ := Hh.loop hp hg
        have fin : st ≠ .busy → s' = ⟨⟨fn, tmps, (lpd.map AItem.code).toList ++ ks, ro, ds, false⟩, callers, h.set l (.loop ⟨.exhausted, lpd, lf, lt, lp, la, lb, ld⟩)⟩ → Sim P w0 cs0 s' fr cs w := by
          intro hst he
          subst he
          have hst' : L.state ≠ .busy := by rw [LR'.state]; exact hst
          have hrun := run_endLoop (P := P) hL hst'
          have hstep := stepR_endRangeFunc (P := P) (b := fr) (a := a) (k := k) (cs := cs) hrun
          rw [← hfr] at hstep
          have hpd : L.pending = lpd := LR'.pending
          refine .of_one hstep ⟨FR.of_atR h1 HTa ?_ hro hdsa hkind, Cs, Hh.setLoop hp hg ⟨rfl, LR'.pending, LR'.fn, LR'.tmps, LR'.params, LR'.assign, LR'.body, LR'.defers⟩⟩
          rw [hpd]
          cases lpd with
          | none => exact hk
          | some c => exact .cons (.code c) hk
        cases st with
        | busy => cases hr
        | ready => cases hr; exact fin (by decide) rfl
        | done => cases hr; exact fin (by decide) rfl
        | exhausted => cases hr; exact fin (by decide) rfl
      · cases hr
    | beginRound =>
      simp only [astep] at hr
      cases ro with
      | none => cases hr
      | some l =>
        simp only at hr
        split at hr
        · rename_i lpd lf lt lp la lb ld hg
          cases hr
          generalize hfro : fr.roundOf = fro at hro
          cases hro with
          | some hp =>
            rename_i p
            obtain ⟨hb0, L, hL, LR'⟩ := Hh.loop hp hg
            have hrun := run_beginRound (P := P) hL LR'.state
            have hstep := stepR_beginRound (P := P) (b := fr) (a := a) (k := k) (cs := cs) hfro hrun
            rw [← hfr] at hstep
            exact .of_one hstep ⟨FR.of_atR h1 HTa hk (by rw [hfro]; exact .some hp) hdsa hkind, Cs, Hh.setLoop hp hg ⟨rfl, LR'.pending, LR'.fn, LR'.tmps, LR'.params, LR'.assign, LR'.body, LR'.defers⟩⟩
        · cases hr
    | ops all i hi =>
      have := ops_sim K (b := fr) (a := a) hi hr h1 HTa hk hro hdsa hkind Cs Hh
      rw [← hfr] at this
      exact this
    | code c =>
      cases c with
      | skip => simp only [astep] at hr; cases hr; exact to _ _ hk stepR_skip rfl
      | label l => simp only [astep] at hr; cases hr; exact to _ _ hk stepR_label rfl
      | seq c d => simp only [astep] at hr; cases hr; exact to _ _ (.cons (.code c) (.cons (.code d) hk)) stepR_seq rfl
      | block id c => simp only [astep] at hr; cases hr; exact to _ _ (.cons (.code c) (.cons (.inBlock id) hk)) stepR_block rfl
      | loop c => simp only [astep] at hr; cases hr; exact to _ _ (.cons (.code c) (.cons (.inLoop c) hk)) stepR_loop rfl
      | scope c => simp only [astep] at hr; cases hr; exact to _ _ (.cons (.code c) (.cons (.inScope c) hk)) (step_lone_go (by simp [stepG, stepG.exec, Frame.atR])) rfl
      | refuse why => simp only [astep] at hr; cases hr
      | cond c thn els =>
        simp only [astep] at hr
        split at hr
        · rename_i t ht
          cases hr
          have hc := cond_sim HTa ht
          have hs := stepR_cond (P := P) (b := fr) (k := k) (cs := cs) (w := w) (x := thn) (y := els) hc
          cases t with
          | true => exact to _ _ (.cons (.code thn) hk) (by simpa using hs) rfl
          | false => exact to _ _ (.cons (.code els) hk) (by simpa using hs) rfl
        · cases hr
      | exit id =>
        simp only [astep] at hr
        obtain ⟨e1, e2⟩ := aexitTo_sim (ρ := ρ) id hk
        split at hr
        · rename_i k' hk'
          cases hr
          obtain ⟨r', hr', hR⟩ := e1 k' hk'
          exact to _ _ hR (stepR_exit hr') rfl
        · rename_i hk'
          exact leave _ _ hr rfl (fun _ hj => by rcases hj with hj | hj <;> cases hj) (fun l c cs' v w' hl hc hrun => by subst hc; exact stepR_round_exit hl hkind (e2 hk') hrun)
      | goto l =>
        simp only [astep] at hr
        obtain ⟨e1, e2⟩ := agotoIn_sim (ρ := ρ) l hk
        split at hr
        · rename_i k' hk'
          cases hr
          obtain ⟨r', hr', hR⟩ := e1 k' hk'
          exact to _ _ hR (stepR_goto hr') rfl
        · rename_i hk'
          exact leave _ _ hr rfl (fun _ hj => by rcases hj with hj | hj <;> cases hj) (fun l c cs' v w' hl hc hrun => by subst hc; exact stepR_round_goto hl hkind (e2 hk') hrun)
      | ret =>
        simp only [astep] at hr
        exact leave _ _ hr rfl (fun hn _ => stepR_ret hn) (fun l c cs' v w' hl hc hrun => by subst hc; exact stepR_round_ret hl hkind hrun)
      | region id ops draw =>
        cases draw with
        | false =>
          simp only [astep, cond_false] at hr
          cases hr
          refine to _ _ (.cons ?_ hk) stepR_region rfl
          have := ItemR.ops (ρ := ρ) ops 0 (Nat.zero_le _)
          simpa [List.range_eq_range'] using this
        | true =>
          simp only [astep, cond_true] at hr
          cases hok : regionOk ops with
          | false => simp [hok] at hr
          | true =>
            simp only [hok, cond_true] at hr
            split at hr
            · rename_i tmps' h' hc
              cases hr
              obtain ⟨ρ', a', w', hs, HTa', hd', H', hst⟩ := draw_sim hok K.mixed hc HTa Hh id fr k cs
              rw [← hfr] at hst
              exact ⟨ρ', _, cs, w', hst, ⟨FR.of_atR h1 HTa' (hk.mono hs) (hro.mono hs) (by rw [hd']; exact hdsa.mono hs) hkind, Cs.mono hs, H'⟩⟩
            · cases hr
      | rangeFunc f params assign body =>
        clear to leave
        simp only [astep] at hr
        split at hr
        · cases hr
        · rename_i hokf
          have hokf' : okOperand P f = true := by simpa using hokf
          have hv := aev_one Hh HTa (x := f) (.inl hokf')
          split at hr
          · rename_i g first captured hg
            rw [hg] at hv
            generalize hfv : a.eval f = fv at hv
            cases hv with
            | func _ g' xs ys us vs hfn a1 a2 b1 b2 =>
            cases hfn
            have hyield : ∀ (ρ' : Ren) (l : Nat) (p : Pl), Sub ρ ρ' → ρ'[l]? = some p → LR ρ' (first.toList ++ [Value.func (.yield l) #[] #[]] ++ captured.toList) ((ys ++ #[Value.func (.yield p.b) #[] #[]]) ++ vs).toList := by
              intro ρ' l p hs hp
              simp only [Array.toList_append]
              exact (((LR.of_arrays a1 a2).mono hs).append (LR.cons (.func _ _ _ _ _ _ (.yield hp) rfl (fun i x y h => by simp at h) rfl (fun i x y h => by simp at h)) (LR.nil ρ'))).append ((LR.of_arrays b1 b2).mono hs)
            cases ro with
            | none =>
              simp only at hr
              obtain ⟨fn', bd, hf, hb, hn1, rfl⟩ := aenter_spec hr
              obtain ⟨hb1, hb2⟩ := K.step_enter hf hb
              have hb3 : ¬ fn'.name = "runtime.NumGoroutine" := by simpa using hb2
              generalize hfro : fr.roundOf = fro at hro
              cases hro
              obtain ⟨L, hL⟩ : ∃ L : Loop, L = { state := .ready, pending := none, fn := fr.fn, tmps := a.tmps, params := params, assign := assign, body := body, defers := w.heap.size } := ⟨_, rfl⟩
              have H1 := Hh.alloc (.deferred (some [])) (.deferred false) ⟨w.heap.size, 0, 0, 0⟩ rfl ⟨Hh.below.size, by show (w.heap.push _)[w.heap.size]? = _; simp⟩
              have hlast1 := Hh.last ⟨w.heap.size, 0, 0, 0⟩
              have H2 := H1.alloc (.loop L)
                (.loop ⟨.ready, none, fn, tmps, params.toList, assign, body, h.n⟩) ⟨w.heap.size + 1, 0, 0, 0⟩ (by show _ = (w.heap.push _).size; simp)
                ⟨by have := Hh.below.size; show w0.heap.size ≤ w.heap.size + 1; omega, L, pushed2 _ _ _, by subst hL; exact ⟨rfl, rfl, h1, (HTa.mono (Sub.append _ _)).mono (Sub.append _ _), rfl, rfl, rfl, _, Sub.append _ _ _ _ hlast1, rfl⟩⟩
              have hlast2 := H1.last ⟨w.heap.size + 1, 0, 0, 0⟩
              simp only [AHeap.n_push] at hlast2
              have hs : Sub ρ (ρ ++ [⟨w.heap.size, 0, 0, 0⟩] ++ [⟨w.heap.size + 1, 0, 0, 0⟩]) := (Sub.append _ _).trans (Sub.append _ _)
              have he : (Instr.enterLoop fr.fn a.tmps params assign body fr.roundOf).run P w = .ok (w.heap.size + 1, [{ target := .collected w.heap.size, args := #[] }])
                  { { w with heap := w.heap.push (.deferred (some [])) } with heap := (w.heap.push (.deferred (some []))).push (.loop L) } := by
                rw [hfro, hL]; simp [Instr.enterLoop]; rfl
              have hstep := stepR_rangeFunc (P := P) (b := fr) (a := a) (k := k) (cs := cs) (g := f) (f := g) (args := (ys ++ #[Value.func (.yield (w.heap.size + 1)) #[] #[]]) ++ vs) he
                (d := { target := .fn (.func g) vs, args := ys ++ #[Value.func (.yield (w.heap.size + 1)) #[] #[]] })
                (run_resolve_range hfv _)
                (by cases hbo : fn'.body with
                    | none => rw [hb] at hbo; cases hbo
                    | some bd' => simp [invoke, callFunc, hf, hb3, hbo]; rfl)
              rw [← hfr] at hstep
              exact ⟨_, _, _, _, .one hstep, ⟨enter_sim hf hb (hyield _ _ _ hs hlast2) hn1, .cons ⟨h1, HTa.mono hs, .cons (.inRangeFunc hlast2) (hk.mono hs), by show RO _ none fr.roundOf; rw [hfro]; exact .none, .cons (Sub.append _ _ _ _ hlast1) (hdsa.mono hs), rfl, hkind⟩ (Cs.mono hs), H2⟩⟩
            | some l0 =>
              simp only at hr
              split at hr
              · rename_i st lpd lf lt lp la lb ld hgl
                obtain ⟨fn', bd, hf, hb, hn1, rfl⟩ := aenter_spec hr
                obtain ⟨hb1, hb2⟩ := K.step_enter hf hb
                have hb3 : ¬ fn'.name = "runtime.NumGoroutine" := by simpa using hb2
                generalize hfro : fr.roundOf = fro at hro
                cases hro with
                | some hp0 =>
                rename_i p0
                obtain ⟨hb0, L0, hL0, LR0⟩ := Hh.loop hp0 hgl
                obtain ⟨pd, hpd, hpd'⟩ := LR0.defers
                obtain ⟨L, hL⟩ : ∃ L : Loop, L = { state := .ready, pending := none, fn := fr.fn, tmps := a.tmps, params := params, assign := assign, body := body, defers := L0.defers } := ⟨_, rfl⟩
                have H2 := Hh.alloc (.loop L)
                  (.loop ⟨.ready, none, fn, tmps, params.toList, assign, body, ld⟩) ⟨w.heap.size, 0, 0, 0⟩ rfl
                  ⟨Hh.below.size, L, by show (w.heap.push _)[w.heap.size]? = _; simp, by subst hL; exact ⟨rfl, rfl, h1, HTa.mono (Sub.append _ _), rfl, rfl, rfl, _, Sub.append _ _ _ _ hpd, hpd'⟩⟩
                have hlast2 := Hh.last ⟨w.heap.size, 0, 0, 0⟩
                have hs : Sub ρ (ρ ++ [⟨w.heap.size, 0, 0, 0⟩]) := Sub.append _ _
                have he : (Instr.enterLoop fr.fn a.tmps params assign body fr.roundOf).run P w = .ok (w.heap.size, [])
                    { w with heap := w.heap.push (.loop L) } := by
                  rw [hfro, hL]; simp [Instr.enterLoop, run_getLoop hL0]
                have hstep := stepR_rangeFunc (P := P) (b := fr) (a := a) (k := k) (cs := cs) (g := f) (f := g) (args := (ys ++ #[Value.func (.yield w.heap.size) #[] #[]]) ++ vs) he
                  (d := { target := .fn (.func g) vs, args := ys ++ #[Value.func (.yield w.heap.size) #[] #[]] })
                  (run_resolve_range hfv _)
                  (by cases hbo : fn'.body with
                      | none => rw [hb] at hbo; cases hbo
                      | some bd' => simp [invoke, callFunc, hf, hb3, hbo]; rfl)
                rw [← hfr] at hstep
                exact ⟨_, _, _, _, .one hstep, ⟨enter_sim hf hb (hyield _ _ _ hs hlast2) hn1, .cons ⟨h1, HTa.mono hs, .cons (.inRangeFunc hlast2) (hk.mono hs), by show RO _ (some l0) fr.roundOf; rw [hfro]; exact .some (hs _ _ hp0), hdsa.mono hs, rfl, hkind⟩ (Cs.mono hs), H2⟩⟩
              · cases hr
          · cases hr

end Go.Am
