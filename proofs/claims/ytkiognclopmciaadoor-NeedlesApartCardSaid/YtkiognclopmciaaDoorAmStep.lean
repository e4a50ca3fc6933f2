/-
  The abstract machine: frames, and operations one behind the other.
-/
import Derived.Test.YtkiognclopmciaaDoorAmOp
namespace Go.Am
open Go Go.RowKit

variable {P : Program} {ρ ρ' : Ren} {w0 w : World} {h : AHeap}

inductive ItemR (ρ : Ren) : AItem → Item → Prop where
  | code (c : Code) : ItemR ρ (.code c) (.code c)
  | inBlock (id : Nat) : ItemR ρ (.inBlock id) (.inBlock id)
  | inLoop (c : Code) : ItemR ρ (.inLoop c) (.inLoop c)
  | inScope (c : Code) : ItemR ρ (.inScope c) (.inScope c)
  | ops (all : Array Oper) (k : Nat) : k ≤ all.size → ItemR ρ (.ops all k (all.toList.drop k)) (.inRegion all (List.range' k (all.size - k)))
  | inRangeFunc {l : Nat} {p : Pl} : ρ[l]? = some p → ItemR ρ (.inRangeFunc l) (.inRangeFunc p.b)
  | endRangeFunc {l : Nat} {p : Pl} : ρ[l]? = some p → ItemR ρ (.endRangeFunc l) (.endRangeFunc p.b)
  | beginRound : ItemR ρ .beginRound .beginRound

inductive TodoR (ρ : Ren) : List AItem → List Item → Prop where
  | nil : TodoR ρ [] []
  | cons {x : AItem} {y : Item} {xs : List AItem} {ys : List Item} : ItemR ρ x y → TodoR ρ xs ys → TodoR ρ (x :: xs) (y :: ys)

inductive DR (ρ : Ren) : List Nat → List Deferred → Prop where
  | nil : DR ρ [] []
  | cons {r : Nat} {p : Pl} {rs : List Nat} {ds : List Deferred} : ρ[r]? = some p → DR ρ rs ds → DR ρ (r :: rs) ({ target := .collected p.b, args := #[] } :: ds)

inductive RO (ρ : Ren) : Option Nat → Option Nat → Prop where
  | none : RO ρ none none
  | some {l : Nat} {p : Pl} : ρ[l]? = some p → RO ρ (some l) (some p.b)

structure FR (ρ : Ren) (a : AFrame) (fr : Frame) : Prop where
  fn : fr.fn = a.fn
  tmps : TR ρ a.tmps fr.tmps
  todo : TodoR ρ a.todo fr.todo
  ro : RO ρ a.roundOf fr.roundOf
  defers : DR ρ a.defers fr.defers
  mode : fr.mode = if a.ret then .returning else .run
  kind : fr.kind = .normal

inductive CR (ρ : Ren) (cs0 : List Frame) : List AFrame → List Frame → Prop where
  | nil : CR ρ cs0 [] cs0
  | cons {a : AFrame} {fr : Frame} {as : List AFrame} {frs : List Frame} : FR ρ a fr → CR ρ cs0 as frs → CR ρ cs0 (a :: as) (fr :: frs)

theorem ItemR.mono (hs : Sub ρ ρ') {x : AItem} {y : Item} (H : ItemR ρ x y) : ItemR ρ' x y := by
  cases H with
  | code c => exact .code c
  | inBlock c => exact .inBlock c
  | inLoop c => exact .inLoop c
  | inScope c => exact .inScope c
  | ops all k hk => exact .ops all k hk
  | inRangeFunc hp => exact .inRangeFunc (hs _ _ hp)
  | endRangeFunc hp => exact .endRangeFunc (hs _ _ hp)
  | beginRound => exact .beginRound

theorem TodoR.mono (hs : Sub ρ ρ') {x : List AItem} {y : List Item} (H : TodoR ρ x y) : TodoR ρ' x y := by
  induction H with
  | nil => exact .nil
  | cons h _ ih => exact .cons (h.mono hs) ih

theorem DR.mono (hs : Sub ρ ρ') {x : List Nat} {y : List Deferred} (H : DR ρ x y) : DR ρ' x y := by
  induction H with
  | nil => exact .nil
  | cons h _ ih => exact .cons (hs _ _ h) ih

theorem RO.mono (hs : Sub ρ ρ') {x y : Option Nat} (H : RO ρ x y) : RO ρ' x y := by
  cases H with
  | none => exact .none
  | some h => exact .some (hs _ _ h)

theorem FR.mono (hs : Sub ρ ρ') {a : AFrame} {fr : Frame} (H : FR ρ a fr) : FR ρ' a fr :=
  ⟨H.fn, H.tmps.mono hs, H.todo.mono hs, H.ro.mono hs, H.defers.mono hs, H.mode, H.kind⟩

theorem CR.mono (hs : Sub ρ ρ') {cs0 : List Frame} {x : List AFrame} {y : List Frame} (H : CR ρ cs0 x y) : CR ρ' cs0 x y := by
  induction H with
  | nil => exact .nil
  | cons h _ ih => exact .cons (h.mono hs) ih

/-! Temporaries. -/

theorem TR.put {t : Tmps} {a : Act} (H : TR ρ t a.tmps) {d : Option Nat} (hd : okDst t d = true) {v v' : Value} (hv : VR ρ v v') : TR ρ (putT t d v) (a.put d v').tmps := by
  cases d with
  | none => exact H
  | some d =>
    have hlt : d < t.size := by simpa [okDst, Nat.blt_eq] using hd
    obtain ⟨h1, h3⟩ := H
    refine ⟨by simp [putT, Act.put, h1], fun i => ?_⟩
    simp only [putT, Act.put]
    rw [Tmps.get_set]
    by_cases hi : i = d
    · subst hi
      have : i < a.tmps.size := by omega
      simp [this, hv]
    · rw [if_neg hi]
      have : (a.tmps.setIfInBounds d v').getD i undef = a.tmps.getD i undef := by
        simp only [Array.getD_eq_getD_getElem?]
        rw [Array.getElem?_setIfInBounds_ne (by omega)]
      rw [this]; exact h3 i

theorem VR.bool_right {x : Value} {b : Bool} (H : VR ρ x (.bool b)) : x = .bool b := by cases H; rfl

theorem yielded_sim {t : Tmps} {c : Array Value} (H : TR ρ t c) (ops : Array Oper) (j : Nat) : ayielded ops t j = yielded ops c j := by
  obtain ⟨h1, h3⟩ := H
  unfold ayielded yielded
  have he : ops.toList[j]? = ops[j]? := by simp
  rw [he]
  cases hd : ((ops[j]?).bind (·.dst) : Option Nat) with
  | none => simp
  | some d =>
    simp only [Option.bind_some]
    by_cases hlt : d < t.size
    · have e1 : Nat.blt d t.size = true := by simpa [Nat.blt_eq] using hlt
      have e2 : c[d]? = some (c.getD d undef) := by
        have : d < c.size := by omega
        simp [this]
      rw [e2]
      simp only [e1, if_true]
      have hv := h3 d
      generalize t.get d = x at hv ⊢
      generalize c.getD d undef = y at hv ⊢
      cases hv <;> rfl
    · have e1 : Nat.blt d t.size = false := by
        cases e : Nat.blt d t.size with
        | false => rfl
        | true => exact absurd (by simpa [Nat.blt_eq] using e) hlt
      have e2 : c[d]? = none := by
        have : ¬ d < c.size := by omega
        simp [this]
      simp [e1, e2]

theorem wanted_sim {t : Tmps} {c : Array Value} (H : TR ρ t c) (ops : Array Oper) (o : Oper) : awanted ops t o = Region.wanted o (yielded ops c) := by
  unfold awanted Region.wanted
  cases o.guard with
  | none => rfl
  | some g => obtain ⟨j, want⟩ := g; simp only [yielded_sim H]

theorem aev_sim {t : Tmps} {a : Act} (H : HR P ρ w0 h w) (HT : TR ρ t a.tmps) {o : Oper} (ho : okOper P o = true) : ∀ x ∈ o.op.operands.toList, VR ρ (aev t x) (a.eval x) :=
  okOper_sim H ho (f := t.get) (fun x => by cases x <;> rfl) HT.2

/-! One operation. -/

theorem stepR_value {all : Array Oper} {k : Nat} {rest : List Nat} {b : Frame} {a : Act} {todo : List Item} {cs : List Frame} {o : Oper} (ho : all[k]? = some o) (hw : Region.wanted o (yielded all a.tmps) = true)
    (hd : ∀ c, o.op ≠ .defer c) {n : Next} {v : Value} {w w' : World} (hr : (execOp a.eval o).run P w = .ok n w') (hn : Nx v n) :
    step P (lone (b.atR a (.inRegion all (k :: rest) :: todo)) cs w) = .next (lone (b.atR (a.put o.dst v) (.inRegion all rest :: todo)) cs w') := by
  have hf : (b.atR a (.inRegion all (k :: rest) :: todo)).finish v = b.atR (a.put o.dst v) (.inRegion all rest :: todo) := by
    rw [Frame.finish_atR, ho]; rfl
  refine step_lone_go ?_
  rw [stepGR_op ho hw, Oper.semAt_eq _ _ _ hd, ← hf]
  rcases hn with rfl | ⟨rfl, rfl⟩
  · simp only [stepG.apply, Sem.runT_eq, hr, if_true, GStep.bare_after]; rfl
  · simp only [stepG.apply, Sem.runT_eq, hr, if_true, GStep.bare_after]; rfl

theorem stepR_enter {all : Array Oper} {k : Nat} {rest : List Nat} {b : Frame} {a : Act} {todo : List Item} {cs : List Frame} {o : Oper} (ho : all[k]? = some o) (hw : Region.wanted o (yielded all a.tmps) = true)
    (hd : ∀ c, o.op ≠ .defer c) {f : FuncId} {args : Array Value} {w w' : World} (hr : (execOp a.eval o).run P w = .ok (.enter f args) w') :
    step P (lone (b.atR a (.inRegion all (k :: rest) :: todo)) cs w) = .next (lone (Frame.enter P f args .normal) (b.atR a (.inRegion all (k :: rest) :: todo) :: cs) w') := by
  refine step_lone_go ?_
  rw [stepGR_op ho hw, Oper.semAt_eq _ _ _ hd]
  simp only [stepG.apply, Sem.runT_eq, hr, if_true, GStep.bare_after]; rfl

theorem stepR_round {all : Array Oper} {k : Nat} {rest : List Nat} {b : Frame} {a : Act} {todo : List Item} {cs : List Frame} {o : Oper} (ho : all[k]? = some o) (hw : Region.wanted o (yielded all a.tmps) = true)
    (hd : ∀ c, o.op ≠ .defer c) {l : Nat} {f : FuncId} {tmps : Array Value} {assign body : Code} {w w' : World} (hr : (execOp a.eval o).run P w = .ok (.round l f tmps assign body) w') :
    step P (lone (b.atR a (.inRegion all (k :: rest) :: todo)) cs w) = .next (lone (Frame.round l f tmps assign body .normal) (b.atR a (.inRegion all (k :: rest) :: todo) :: cs) w') := by
  refine step_lone_go ?_
  rw [stepGR_op ho hw, Oper.semAt_eq _ _ _ hd]
  simp only [stepG.apply, Sem.runT_eq, hr, if_true, GStep.bare_after]; rfl

theorem range'_cons {k n : Nat} (hk : k < n) : List.range' k (n - k) = k :: List.range' (k + 1) (n - (k + 1)) := by
  have : n - k = (n - (k + 1)) + 1 := by omega
  rw [this, List.range'_succ]

theorem drop_cons {all : Array Oper} {k : Nat} {o : Oper} {rest : List Oper} (hd : all.toList.drop k = o :: rest) : k < all.size ∧ all[k]? = some o ∧ rest = all.toList.drop (k + 1) := by
  have hlt : k < all.toList.length := by
    rcases Nat.lt_or_ge k all.toList.length with h | h
    · exact h
    · rw [List.drop_eq_nil_of_le h] at hd; cases hd
  rw [List.drop_eq_getElem_cons hlt] at hd
  cases hd
  exact ⟨by simpa using hlt, by simp at hlt; simp [hlt], rfl⟩

theorem aop_okOper {ev : Operand → Value} {o : Oper} {x : ANext} (hf : aop P ev h o = some x) : okOper P o = true := by
  unfold aop at hf
  cases hok : okOper P o with
  | true => rfl
  | false => simp [hok] at hf

theorem goOps_sim {all : Array Oper} {b : Frame} {todo : List Item} {cs : List Frame} : ∀ (rest : List Oper) (k : Nat) (tmps tmps' : Tmps) (h h' : AHeap) (k' : Nat) (rest' : List Oper) (ρ : Ren) (a : Act) (w : World),
    goOps P all k rest tmps h = some (tmps', h', k', rest') → rest = all.toList.drop k → k ≤ all.size → TR ρ tmps a.tmps → HR P ρ w0 h w →
    ∃ ρ' a' w', Sub ρ ρ' ∧ TR ρ' tmps' a'.tmps ∧ a'.defers = a.defers ∧ HR P ρ' w0 h' w' ∧ rest' = all.toList.drop k' ∧ k' ≤ all.size ∧
      (∀ o r, rest' = o :: r → awanted all tmps' o = true) ∧
      Steps P (lone (b.atR a (.inRegion all (List.range' k (all.size - k)) :: todo)) cs w) (lone (b.atR a' (.inRegion all (List.range' k' (all.size - k')) :: todo)) cs w') := by
  intro rest
  induction rest with
  | nil =>
    intro k tmps tmps' h h' k' rest' ρ a w hf hr hk HT H
    simp [goOps] at hf
    obtain ⟨rfl, rfl, rfl, rfl⟩ := hf
    exact ⟨ρ, a, w, Sub.refl ρ, HT, rfl, H, hr, hk, fun o r e => (by cases e), Steps.refl _ _⟩
  | cons o rest ih =>
    intro k tmps tmps' h h' k' rest' ρ a w hf hr hk HT H
    obtain ⟨hlt, ho, hrest⟩ := drop_cons hr.symm
    simp only [goOps] at hf
    split at hf
    · rename_i hok
      split at hf
      · rename_i hw
        have hw' := hw
        rw [wanted_sim HT] at hw'
        split at hf
        · rename_i v h1 hop
          have hokk := aop_okOper hop
          obtain ⟨ρ1, v', n, w1, hr1, hn, hs, H1, hv⟩ := aop_value H hop (fun hk => aev_sim H HT hk)
          have hstep := stepR_value (b := b) (todo := todo) (cs := cs) (rest := List.range' (k + 1) (all.size - (k + 1))) ho hw' (okOper_defer hokk) hr1 hn
          rw [← range'_cons hlt] at hstep
          obtain ⟨ρ2, a2, w2, hs2, HT2, hd2, H2, hrr, hk2, hwn, hst⟩ := ih (k + 1) (putT tmps o.dst v) tmps' h1 h' k' rest' ρ1 (a.put o.dst v') w1 hf hrest hlt ((HT.mono hs).put hok hv) H1
          refine ⟨ρ2, a2, w2, hs.trans hs2, HT2, ?_, H2, hrr, hk2, hwn, .head hstep hst⟩
          rw [hd2]; cases o.dst <;> rfl
        · cases hf
          exact ⟨ρ, a, w, Sub.refl ρ, HT, rfl, H, hr, hk, fun o' r e => (by cases e; exact hw), Steps.refl _ _⟩
        · cases hf
      · rename_i hw
        have hw' : Region.wanted o (yielded all a.tmps) = false := by
          rw [← wanted_sim HT]; simpa using hw
        have hstep := stepR_op_skip (P := P) (b := b) (a := a) (k := todo) (cs := cs) (w := w) (ops := all) (i := k) (rest := List.range' (k + 1) (all.size - (k + 1))) (by simp [ho, hw'])
        simp only [ho, Option.bind_some] at hstep
        rw [← range'_cons hlt] at hstep
        obtain ⟨ρ2, a2, w2, hs2, HT2, hd2, H2, hrr, hk2, hwn, hst⟩ := ih (k + 1) (putT tmps o.dst undef) tmps' h h' k' rest' ρ (a.put o.dst undef) w hf hrest hlt (HT.put hok (VR.undef ρ)) H
        refine ⟨ρ2, a2, w2, hs2, HT2, ?_, H2, hrr, hk2, hwn, .head hstep hst⟩
        rw [hd2]; cases o.dst <;> rfl
    · cases hf

end Go.Am
