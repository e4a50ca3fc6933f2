/-
  The abstract machine: one operation, of whatever kind.
-/
import Derived.Test.YtkiognclopmciaaDoorAmEff2
namespace Go.Am
open Go Go.RowKit

variable {P : Program} {ρ : Ren} {w0 w : World} {h : AHeap}

/-- What an operation with a value does to the worlds. -/
def OpEff (P : Program) (ρ : Ren) (w0 : World) (v : Value) (h' : AHeap) (r : Result Next) : Prop :=
  ∃ ρ' v' n w', r = .ok n w' ∧ Nx v' n ∧ Sub ρ ρ' ∧ HR P ρ' w0 h' w' ∧ VR ρ' v v'

theorem OpEff.of_eff {v : Value} {h' : AHeap} {s : Sem Value} (H : Eff P ρ w0 v h' (s.run P w)) : OpEff P ρ w0 v h' ((do pure (.value (← s)) : Sem Next).run P w) := by
  obtain ⟨ρ', v', w', h1, h2, h3, h4⟩ := H
  exact ⟨ρ', v', .value v', w', by simp [h1], .inl rfl, h2, h3, h4⟩

theorem w2_some {x : Option (Value × AHeap)} {v : Value} {h' : AHeap} (hf : w2 x = some (.value v h')) : x = some (v, h') := by
  cases x with
  | none => simp [w2] at hf
  | some p => obtain ⟨a, b⟩ := p; simp [w2] at hf; obtain ⟨rfl, rfl⟩ := hf; rfl

theorem w2_enter {x : Option (Value × AHeap)} {f : FuncId} {args : List Value} {h' : AHeap} (hf : w2 x = some (.enter f args h')) : False := by
  cases x <;> simp [w2] at hf

theorem w2_round {x : Option (Value × AHeap)} {l : Nat} {args : List Value} (hf : w2 x = some (.round l args)) : False := by
  cases x <;> simp [w2] at hf

theorem aeff_value (H : HR P ρ w0 h w) {o : Oper} {ev ev' : Operand → Value} {v : Value} {h' : AHeap} (hf : aeff P ev h o = some (.value v h'))
    (hx : ∀ x ∈ o.op.operands.toList, VR ρ (ev x) (ev' x)) : OpEff P ρ w0 v h' ((execOp ev' o).run P w) := by
  obtain ⟨dst, op, type, pos, after, guard⟩ := o
  unfold aeff at hf
  simp only at hf hx
  split at hf
  · rename_i e
    split at hf
    · rename_i z hz
      obtain ⟨hz1, hz2⟩ := azero_sim (ρ := ρ) hz
      have h1 := anew_sim H (cc := z.cells) e (w2_some hf) hz2
      refine OpEff.of_eff (s := Instr.alloc e true (.tuple #[])) ?_
      have h2 := run_zeroValue (P := P) (w := w) hz1
      have : (Instr.alloc e true (.tuple #[])).run P w = .ok (.pointer (some ⟨w.heap.size, 0, none⟩)) (w.alloc (.cells z.cells e)) := by
        simp [Instr.alloc, h2, newVar, newRow]
      rw [this]; exact h1
    · cases hf
  · rename_i e x
    have h1 := anew_sim H (cc := (ev' x).cells) e (w2_some hf) (hx x (by simp [Op.operands])).cells
    refine OpEff.of_eff (s := Instr.box e (ev' x)) ?_
    have : (Instr.box e (ev' x)).run P w = .ok (.pointer (some ⟨w.heap.size, 0, none⟩)) (w.alloc (.cells (ev' x).cells e)) := by
      simp [Instr.box, newVar, newRow]
    rw [this]; exact h1
  · rename_i t n parts
    have hp : PR ρ (parts.toList.map fun p => (p.1, ev p.2)) (parts.map fun (i, x) => (i, ev' x)).toList := by
      simp only [Array.toList_map]
      exact PR.map_ops fun x hx' => hx x.2 (by simp [Op.operands]; exact ⟨x.1, by simpa using hx'⟩)
    exact OpEff.of_eff (abuildSlice_sim H (w2_some hf) hp)
  · rename_i t a x
    simp only [Option.map_eq_some_iff] at hf
    obtain ⟨h2, hs, he⟩ := hf
    cases he
    obtain ⟨w', h3, h4⟩ := astore_sim H hs (hx a (by simp [Op.operands])) (hx x (by simp [Op.operands]))
    exact ⟨ρ, undef, .skip, w', by simp [execOp, h3], .inr ⟨rfl, rfl⟩, Sub.refl ρ, h4, VR.undef ρ⟩
  · rename_i s d x
    exact OpEff.of_eff (aconvert_sim H (w2_some hf) (hx x (by simp [Op.operands])))
  · rename_i t l c
    exact OpEff.of_eff (amakeSlice_sim H (w2_some hf) (hx l (by simp [Op.operands])) (hx c (by simp [Op.operands])))
  · rename_i c
    obtain ⟨callee, args, argTypes⟩ := c
    simp only at hf
    cases callee with
    | builtin b =>
      simp only at hf
      have hargs : ∀ x ∈ args.toList, VR ρ (ev x) (ev' x) := fun x hx' => hx x (by simp [Op.operands, Call.operands]; simpa using hx')
      split at hf
      · rename_i s x hax
        have ha : args = #[s, x] := by rw [← Array.toArray_toList (xs := args), hax]
        subst ha
        have h1 := aappend_sim H (ty := type) (w2_some hf) (hargs s (by simp)) (hargs x (by simp))
        have := OpEff.of_eff h1
        simpa [execOp, resolve, invoke, builtin] using this
      · rename_i s x hax
        have ha : args = #[s, x] := by rw [← Array.toArray_toList (xs := args), hax]
        subst ha
        have h1 := acopy_sim H (ty := type) (w2_some hf) (hargs s (by simp)) (hargs x (by simp))
        have := OpEff.of_eff h1
        simpa [execOp, resolve, invoke, builtin] using this
      · cases hf
    | value f => simp only at hf; split at hf <;> cases hf
    | invoke r m => cases hf
  · cases hf

theorem aeff_enter {o : Oper} {ev ev' : Operand → Value} {f : FuncId} {args : List Value} {h' : AHeap} (hf : aeff P ev h o = some (.enter f args h'))
    (hx : ∀ x ∈ o.op.operands.toList, VR ρ (ev x) (ev' x)) :
    h' = h ∧ ∃ args' : Array Value, LR ρ args args'.toList ∧ ∀ fn : Func, P.funcs[f]? = some fn → fn.body.isSome = true → (fn.name == "runtime.NumGoroutine") = false → (execOp ev' o).run P w = .ok (.enter f args') w := by
  obtain ⟨dst, op, type, pos, after, guard⟩ := o
  unfold aeff at hf
  simp only at hf hx
  split at hf
  · split at hf
    · exact (w2_enter hf).elim
    · cases hf
  · exact (w2_enter hf).elim
  · exact (w2_enter hf).elim
  · simp at hf
  · exact (w2_enter hf).elim
  · exact (w2_enter hf).elim
  · rename_i c
    obtain ⟨callee, cargs, argTypes⟩ := c
    simp only at hf
    cases callee with
    | builtin b => simp only at hf; split at hf <;> first | exact (w2_enter hf).elim | cases hf
    | invoke r m => cases hf
    | value fo =>
      simp only at hf
      have h1 := hx fo (by simp [Op.operands, Call.operands])
      have hargs : LR ρ (cargs.toList.map ev) (cargs.toList.map ev') := LR.map_ops fun x hx' => hx x (by simp [Op.operands, Call.operands]; exact .inr (by simpa using hx'))
      split at hf
      · rename_i g first captured hfo
        cases hf
        rw [hfo] at h1
        generalize hfo' : ev' fo = vf at h1
        cases h1 with
        | func f' g' xs ys us vs hfn a1 a2 b1 b2 =>
          cases hfn
          refine ⟨rfl, ys ++ cargs.map ev' ++ vs, ?_, fun fn hfn hb hnm => ?_⟩
          · simp only [Array.toList_append, Array.toList_map]
            exact ((LR.of_arrays a1 a2).append hargs).append (LR.of_arrays b1 b2)
          · cases hbo : fn.body with
            | none => simp [hbo] at hb
            | some bd =>
              have hnm' : ¬ fn.name = "runtime.NumGoroutine" := by simpa using hnm
              simp [execOp, resolve, hfo', Deferred.ofValue, invoke, callFunc, hfn, hnm', hbo]
      · cases hf
      · cases hf
  · cases hf

theorem aeff_round {o : Oper} {ev ev' : Operand → Value} {l : Nat} {args : List Value} (hf : aeff P ev h o = some (.round l args))
    (hx : ∀ x ∈ o.op.operands.toList, VR ρ (ev x) (ev' x)) :
    ∃ (p : Pl) (args' : Array Value), ρ[l]? = some p ∧ LR ρ args args'.toList ∧ (execOp ev' o).run P w = (Instr.yield p.b args').run P w := by
  obtain ⟨dst, op, type, pos, after, guard⟩ := o
  unfold aeff at hf
  simp only at hf hx
  split at hf
  · split at hf
    · exact (w2_round hf).elim
    · cases hf
  · exact (w2_round hf).elim
  · exact (w2_round hf).elim
  · simp at hf
  · exact (w2_round hf).elim
  · exact (w2_round hf).elim
  · rename_i c
    obtain ⟨callee, cargs, argTypes⟩ := c
    simp only at hf
    cases callee with
    | builtin b => simp only at hf; split at hf <;> first | exact (w2_round hf).elim | cases hf
    | invoke r m => cases hf
    | value fo =>
      simp only at hf
      have h1 := hx fo (by simp [Op.operands, Call.operands])
      have hargs : LR ρ (cargs.toList.map ev) (cargs.toList.map ev') := LR.map_ops fun x hx' => hx x (by simp [Op.operands, Call.operands]; exact .inr (by simpa using hx'))
      split at hf
      · cases hf
      · rename_i g first captured hfo
        cases hf
        rw [hfo] at h1
        generalize hfo' : ev' fo = vf at h1
        cases h1 with
        | func f' g' xs ys us vs hfn a1 a2 b1 b2 =>
          cases hfn with
          | yield hp =>
            rename_i p
            refine ⟨p, ys ++ cargs.map ev', hp, ?_, ?_⟩
            · simp only [Array.toList_append, Array.toList_map]
              exact (LR.of_arrays a1 a2).append hargs
            · simp [execOp, resolve, hfo', Deferred.ofValue, invoke]
      · cases hf
  · cases hf

/-- The operands of an operation of the program's text. -/
theorem okOper_sim (H : HR P ρ w0 h w) {o : Oper} (ho : okOper P o = true) {ev : Operand → Value} {a : Act} {f : Nat → Value} (hev : ∀ x, ev x = match x with | .tmp t => f t | .const v => v | .global g => .pointer (some ⟨g, 0, none⟩) | .func g => .func (.func g) #[] #[])
    (ht : ∀ t, VR ρ (f t) (a.tmps.getD t undef)) : ∀ x ∈ o.op.operands.toList, VR ρ (ev x) (a.eval x) := by
  have hall : o.op.operands.toList.all (okOperand P) = true := by
    unfold okOper at ho
    split at ho
    · cases ho
    · cases ho
    · exact ho
  intro x hx
  have hok := List.all_eq_true.1 hall x hx
  rw [hev x]
  cases x with
  | tmp t => exact ht t
  | const v => exact plainV_sim hok
  | global g =>
    obtain ⟨p, hp, hb, hs⟩ := H.glob g (by simpa [okOperand, Nat.blt_eq] using hok)
    have := VR.ptr (ρ := ρ) 0 hp
    rw [hb, hs] at this
    simpa [Act.eval] using this
  | func g => exact .func _ _ _ _ _ _ (.func g) rfl (fun i x y h => by simp at h) rfl (fun i x y h => by simp at h)

theorem okOper_defer {o : Oper} (ho : okOper P o = true) : ∀ c, o.op ≠ .defer c := by
  intro c e
  unfold okOper at ho
  rw [e] at ho
  cases ho

theorem aop_value (H : HR P ρ w0 h w) {o : Oper} {ev ev' : Operand → Value} {v : Value} {h' : AHeap} (hf : aop P ev h o = some (.value v h'))
    (hx : okOper P o = true → ∀ x ∈ o.op.operands.toList, VR ρ (ev x) (ev' x)) : OpEff P ρ w0 v h' ((execOp ev' o).run P w) := by
  unfold aop at hf
  cases hok : okOper P o with
  | false => simp [hok] at hf
  | true =>
    simp only [hok, cond_true] at hf
    split at hf
    · rename_i u hu
      cases hf
      obtain ⟨v', h1, h2⟩ := apure_sim H hu (hx hok)
      exact ⟨ρ, v', .value v', w, h1, .inl rfl, Sub.refl ρ, H, h2⟩
    · exact aeff_value H hf (hx hok)

end Go.Am
