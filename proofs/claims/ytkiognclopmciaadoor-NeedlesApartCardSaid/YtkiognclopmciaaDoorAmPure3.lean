/-
  The abstract machine: arithmetic, comparisons; all quiet operations together.
-/
import Derived.Test.YtkiognclopmciaaDoorAmPure2
namespace Go.Am
open Go Go.RowKit

variable {P : Program} {ρ : Ren} {w0 w : World} {h : AHeap}

theorem asame_sim {t : TypeId} {d : TypeDesc} {x x' y y' : Value} {r : Bool} (hu : P.underlying t = some d) (hs : asame d x y = some r) (hx : VR ρ x x') (hy : VR ρ y y') (n : Nat) :
    (Op.equalIn (n + 1) t x' y').run P w = .ok r w := by
  unfold asame at hs
  split at hs
  · cases hx; cases hy
    split at hs
    · rename_i hk
      subst hk
      cases hs
      exact run_equalIn_int w n t _ _ _ _ hu
    · cases hs
  · cases hx; cases hy; cases hs; exact run_equalIn_bool' w n t _ _ hu
  · cases hx; cases hy; cases hs
    rw [run_equalIn_string w n t _ _ hu, beq_toListBytes]
  · cases hs

theorem aeqFields_sim {eq : TypeId → Value → Value → Option Bool} {n : Nat}
    (ih : ∀ (t : TypeId) (x x' y y' : Value) (r : Bool), eq t x y = some r → VR ρ x x' → VR ρ y y' → (Op.equalIn n t x' y').run P w = .ok r w)
    {xs xs' ys ys' : Array Value} (hx : LR ρ xs.toList xs'.toList) (hy : LR ρ ys.toList ys'.toList) :
    ∀ (fs : List Field) (r : Bool), aeqFields P eq xs ys fs = some r → (Op.eqFields n xs' ys' fs).run P w = .ok r w := by
  intro fs
  induction fs with
  | nil => intro r hr; simp [aeqFields] at hr; subst hr; rfl
  | cons f fs ihf =>
    intro r hr
    simp only [aeqFields] at hr
    split at hr
    · cases hr
    · rename_i hn
      split at hr
      · rename_i a b ha hb
        obtain ⟨a', ra, va⟩ := apart_sim (w := w) ha hx
        obtain ⟨b', rb, vb⟩ := apart_sim (w := w) hb hy
        simp only [Op.eqFields, ne_eq, hn, not_false_eq_true, if_true, Sem.run_bind, ra, rb, Result.andThen_ok]
        split at hr
        · rename_i he
          rw [ih f.type a a' b b' true he va vb]
          simp only [Result.andThen_ok, Bool.not_true, Bool.false_eq_true, if_false]
          exact ihf r hr
        · rename_i he
          cases hr
          rw [ih f.type a a' b b' false he va vb]
          rfl
        · cases hr
      · cases hr

theorem aequal_sim : ∀ (d : Nat) (t : TypeId) (x x' y y' : Value) (r : Bool) (n : Nat), d ≤ n → aequal P d t x y = some r → VR ρ x x' → VR ρ y y' →
    (Op.equalIn n t x' y').run P w = .ok r w := by
  intro d
  induction d with
  | zero => intro t x x' y y' r n _ hs; simp [aequal] at hs
  | succ d ih =>
    intro t x x' y y' r n hn hs hx hy
    obtain ⟨m, rfl⟩ : ∃ m, n = m + 1 := ⟨n - 1, by omega⟩
    unfold aequal at hs
    split at hs
    · rename_i fields xs ys hu
      split at hs
      · cases hs
      · rename_i hst
        obtain ⟨xs', rfl, hxl⟩ := hx.agg_inv
        obtain ⟨ys', rfl, hyl⟩ := hy.agg_inv
        have hf : P.fieldsOf t = fields := by simp [Program.fieldsOf, hu]
        rw [run_equalIn_struct w m t xs' ys' (by rw [hf]; exact hu) (by simpa using hst), hf]
        exact aeqFields_sim (fun t x x' y y' r h1 h2 h3 => ih t x x' y y' r m (by omega) h1 h2 h3) hxl hyl _ _ hs
    · rename_i hu
      cases hx; cases hs
      cases hy <;> simp [Op.equalIn, run_underlying hu]
    · rename_i hnn hu
      cases hy; cases hs
      cases hx <;> first | exact (hnn rfl).elim | simp [Op.equalIn, run_underlying hu]
    · rename_i hu
      cases hx; cases hy; cases hs; simp [Op.equalIn, run_underlying hu]
    · rename_i hu
      cases hx; cases hy; cases hs; simp [Op.equalIn, run_underlying hu]
    · rename_i hu
      cases hx; cases hy; cases hs; simp [Op.equalIn, run_underlying hu]
    · rename_i hu
      cases hx; cases hs
      cases hy <;> simp [Op.equalIn, run_underlying hu]
    · rename_i hnn hu
      cases hy; cases hs
      cases hx <;> first | exact (hnn rfl).elim | simp [Op.equalIn, run_underlying hu]
    · exact asame_sim (by assumption) hs hx hy m
    · cases hs

theorem run_eqGuard_ok {op : BinOp} {t : TypeId} {x y : Operand} {a a' b' : Value} (hg : noGuard P t a = true) (ha : VR ρ a a') :
    (eqGuard op t x y a' b').run P w = .ok () w := by
  cases ha <;> simp [noGuard] at hg <;> cases op <;> cases b' <;> simp [eqGuard, hg]

theorem abinOp_sim {op : BinOp} {t : TypeId} {ox oy : Operand} {x x' y y' v : Value} (hf : abinOp P op t x y = some v) (hx : VR ρ x x') (hy : VR ρ y y') :
    ∃ v', (do eqGuard op t ox oy x' y'; binOp op t x' y' : Sem Value).run P w = .ok v' w ∧ VR ρ v v' := by
  unfold abinOp at hf
  split at hf
  · cases hx; cases hy
    split at hf
    · cases hf
    · rename_i hb
      cases hf
      exact ⟨_, by simp [eqGuard, binOp_shl, Op.shift, hb], .int _ _⟩
  · cases hx; cases hy
    split at hf
    · cases hf
    · rename_i hb
      cases hf
      exact ⟨_, by simp [eqGuard, binOp_shr, Op.shift, hb], .int _ _⟩
  · cases hx; cases hy
    split at hf
    · cases hf
    · rename_i hk
      have hk' := Decidable.not_not.1 hk
      subst hk'
      split at hf <;> first
        | (cases hf; exact ⟨_, by simp [eqGuard, binOp, Op.intArith, Op.intBits, Op.intCmp], .int _ _⟩)
        | (cases hf; exact ⟨_, by simp [eqGuard, binOp, Op.intArith, Op.intBits, Op.intCmp], .bool _⟩)
        | (split at hf
           · cases hf
           · rename_i hb; cases hf; exact ⟨_, by simp [eqGuard, binOp, Op.intDiv, hb], .int _ _⟩)
        | (cases hf; done)
  · cases hx; cases hy
    split at hf
    · split at hf
      · cases hf
      · rename_i hb; cases hf
        have hm : IntKind.i64.max = 9223372036854775807 := by decide
        rw [hm] at hb
        refine ⟨_, ?_, .string _⟩
        simp [eqGuard, binOp]
        exact run_string_add_sum (P := P) (w := w) _ _ (by omega)
    · cases hf; exact ⟨_, by simp [eqGuard, binOp, Op.stringOp], .bool _⟩
    · cases hf; exact ⟨_, by simp [eqGuard, binOp, Op.stringOp], .bool _⟩
    · cases hf; exact ⟨_, by simp [eqGuard, binOp, Op.stringOp], .bool _⟩
    · cases hf
  · split at hf
    · rename_i hg
      simp only [Option.map_eq_some_iff] at hf
      obtain ⟨r, hr, rfl⟩ := hf
      have h1 := aequal_sim (P := P) (w := w) 100 t x x' y y' r 10000 (by omega) hr hx hy
      refine ⟨.bool r, ?_, .bool r⟩
      have h2 := run_eqGuard_ok (P := P) (w := w) (op := .eql) (x := ox) (y := oy) (b' := y') hg hx
      have h3 : binOp .eql t x' y' = (do pure (.bool (← Op.equal t x' y'))) := by
        cases hx <;> cases hy <;> first | rfl | (simp_all; done) | (simp_all; rename_i hh; exact (hh _ _ _ _ rfl rfl rfl rfl).elim)
      simp only [Sem.run_bind, h2, Result.andThen_ok, h3, Op.equal, Op.maxDepth, h1, Sem.run_pure]
    · cases hf
  · split at hf
    · rename_i hg
      simp only [Option.map_eq_some_iff] at hf
      obtain ⟨r, hr, rfl⟩ := hf
      have h1 := aequal_sim (P := P) (w := w) 100 t x x' y y' r 10000 (by omega) hr hx hy
      refine ⟨.bool (!r), ?_, .bool _⟩
      have h2 := run_eqGuard_ok (P := P) (w := w) (op := .neq) (x := ox) (y := oy) (b' := y') hg hx
      have h3 : binOp .neq t x' y' = (do pure (.bool (!(← Op.equal t x' y')))) := by
        cases hx <;> cases hy <;> first | rfl | (simp_all; done) | (simp_all; rename_i hh; exact (hh _ _ _ _ rfl rfl rfl rfl).elim)
      simp only [Sem.run_bind, h2, Result.andThen_ok, h3, Op.equal, Op.maxDepth, h1, Sem.run_pure]
    · cases hf
  · cases hf

theorem aunOp_sim {op : UnOp} {x x' v : Value} (hf : aunOp op x = some v) (hx : VR ρ x x') : ∃ v', (Op.unary op x').run P w = .ok v' w ∧ VR ρ v v' := by
  unfold aunOp at hf
  split at hf
  · cases hx; cases hf; exact ⟨_, by simp [Op.unary, Op.intArith], .int _ _⟩
  · cases hx; cases hf; exact ⟨_, by simp [Op.unary, Op.intBits], .int _ _⟩
  · cases hx; cases hf; exact ⟨_, by simp [Op.unary], .bool _⟩
  · cases hf

theorem alen_sim {t ty : TypeId} {x x' v : Value} (hf : alen P t x = some v) (hx : VR ρ x x') : ∃ v', (Builtin.len_ #[t] ty #[x']).run P w = .ok v' w ∧ VR ρ v v' := by
  unfold alen at hf
  split at hf
  · rename_i s hu
    cases hx; cases hf; exact ⟨_, by simp [Builtin.len_, run_underlying hu, goInt], .int _ _⟩
  · rename_i n e hu
    cases hf; exact ⟨_, by simp [Builtin.len_, run_underlying hu, goInt], .int _ _⟩
  · rename_i hu
    cases hf
    cases hx <;> exact ⟨_, by simp [Builtin.len_, run_underlying hu, goInt], .int _ _⟩
  · cases hf

theorem acap_sim {t ty : TypeId} {x x' v : Value} (hf : acap P t x = some v) (hx : VR ρ x x') : ∃ v', (Builtin.cap_ #[t] ty #[x']).run P w = .ok v' w ∧ VR ρ v v' := by
  unfold acap at hf
  split at hf
  · rename_i hu
    split at hf
    · cases hf
    · rename_i hb
      cases hf
      cases hx <;> first | exact absurd rfl hb | exact ⟨_, by simp [Builtin.cap_, run_underlying hu, goInt], .int _ _⟩
  · rename_i hu
    cases hf; exact ⟨_, by simp [Builtin.cap_, run_underlying hu, goInt], .int _ _⟩
  · cases hf

def amin2 (mx : Bool) (a b : Value) : Option Value :=
  match a, b with
  | .int k p, .int _ q => some (.int k (if mx then (if q > p then q else p) else (if q < p then q else p)))
  | _, _ => none

theorem amin_eq (mx : Bool) (x : Value) (l : List Value) : amin mx (x :: l) = l.foldlM (amin2 mx) x := rfl

theorem amin2_sim {mx : Bool} {a a' b b' v : Value} (hf : amin2 mx a b = some v) (ha : VR ρ a a') (hb : VR ρ b b') :
    ∃ v', ((if mx then Builtin.max2 a' b' else Builtin.min2 a' b') : Sem Value).run P w = .ok v' w ∧ VR ρ v v' := by
  unfold amin2 at hf
  split at hf
  · cases ha; cases hb; cases hf
    cases mx
    · exact ⟨_, by simp [Builtin.min2], .int _ _⟩
    · exact ⟨_, by simp [Builtin.max2], .int _ _⟩
  · cases hf

theorem amin_fold_sim {mx : Bool} : ∀ (l l' : List Value) (x x' v : Value), l.foldlM (amin2 mx) x = some v → LR ρ l l' → VR ρ x x' →
    ∃ v', (l'.foldlM (fun a b => if mx then Builtin.max2 a b else Builtin.min2 a b) x').run P w = .ok v' w ∧ VR ρ v v' := by
  intro l
  induction l with
  | nil => intro l' x x' v hf hl hx; simp at hf; subst hf; rw [hl.nil_left]; exact ⟨x', by simp, hx⟩
  | cons y l ih =>
    intro l' x x' v hf hl hx
    obtain ⟨y', l', rfl, hv, hs⟩ := hl.uncons
    simp only [List.foldlM_cons, Option.bind_eq_bind] at hf
    cases h2 : amin2 mx x y with
    | none => simp [h2] at hf
    | some z =>
      simp only [h2, Option.bind_some] at hf
      obtain ⟨z', hz, hzv⟩ := amin2_sim (P := P) (w := w) h2 hx hv
      obtain ⟨v', hv', hvv⟩ := ih l' z z' v hf hs hzv
      exact ⟨v', by simp only [List.foldlM_cons, Sem.run_bind, hz, Result.andThen_ok, hv'], hvv⟩

theorem amin_sim {mx : Bool} {l l' : List Value} {v : Value} {ts : Array TypeId} {ty : TypeId} (hf : amin mx l = some v) (hl : LR ρ l l') :
    ∃ v', ((if mx then Builtin.max_ ts ty l'.toArray else Builtin.min_ ts ty l'.toArray) : Sem Value).run P w = .ok v' w ∧ VR ρ v v' := by
  cases l with
  | nil => simp [amin] at hf
  | cons x l =>
    obtain ⟨x', l', rfl, hv, hs⟩ := hl.uncons
    rw [amin_eq] at hf
    obtain ⟨v', h1, h2⟩ := amin_fold_sim (P := P) (w := w) l l' x x' v hf hs hv
    refine ⟨v', ?_, h2⟩
    cases mx
    · simpa [Builtin.min_] using h1
    · simpa [Builtin.max_] using h1

/-! All quiet operations. -/

theorem LR.map_ops {xs : List Operand} {ev ev' : Operand → Value} (H : ∀ x ∈ xs, VR ρ (ev x) (ev' x)) : LR ρ (xs.map ev) (xs.map ev') := by
  induction xs with
  | nil => exact LR.nil ρ
  | cons x xs ih => exact LR.cons (H x (by simp)) (ih fun y hy => H y (by simp [hy]))

theorem PR.map_ops {xs : List (Nat × Operand)} {ev ev' : Operand → Value} (H : ∀ x ∈ xs, VR ρ (ev x.2) (ev' x.2)) :
    PR ρ (xs.map fun p => (p.1, ev p.2)) (xs.map fun p => (p.1, ev' p.2)) := by
  refine ⟨by simp [Function.comp_def], ?_⟩
  simp only [List.map_map, Function.comp_def]
  induction xs with
  | nil => exact LR.nil ρ
  | cons x xs ih => exact LR.cons (H x (by simp)) (ih fun y hy => H y (by simp [hy]))

theorem apure_sim (H : HR P ρ w0 h w) {o : Oper} {ev ev' : Operand → Value} {v : Value} (hf : apure P ev h o = some v)
    (hx : ∀ x ∈ o.op.operands.toList, VR ρ (ev x) (ev' x)) : ∃ v', (execOp ev' o).run P w = .ok (.value v') w ∧ VR ρ v v' := by
  obtain ⟨dst, op, type, pos, after, guard⟩ := o
  unfold apure at hf
  simp only at hf hx
  split at hf
  · rename_i x; cases hf; exact ⟨ev' x, by simp [execOp], hx x (by simp [Op.operands])⟩
  · rename_i x; cases hf; exact ⟨ev' x, by simp [execOp], hx x (by simp [Op.operands])⟩
  · rename_i c a b
    have h1 := hx c (by simp [Op.operands]); have h2 := hx a (by simp [Op.operands]); have h3 := hx b (by simp [Op.operands])
    split at hf
    · rename_i t ht
      rw [ht] at h1
      cases hf
      generalize hc : ev' c = c' at h1
      cases h1
      exact ⟨if t then ev' a else ev' b, by simp [execOp, hc, asBool], by cases t <;> simp [h2, h3]⟩
    · cases hf
  · rename_i t parts
    have hp : PR ρ (parts.toList.map fun p => (p.1, ev p.2)) (parts.map fun (i, x) => (i, ev' x)).toList := by
      simp only [Array.toList_map]
      exact PR.map_ops fun x hx' => hx x.2 (by simp [Op.operands]; exact ⟨x.1, by simpa using hx'⟩)
    obtain ⟨v', h1, h2⟩ := abuild_sim (w := w) hf hp
    exact ⟨v', by simp [execOp, h1], h2⟩
  · rename_i t a
    obtain ⟨v', h1, h2⟩ := aload_sim H hf (hx a (by simp [Op.operands]))
    exact ⟨v', by simp [execOp, h1], h2⟩
  · rename_i x
    have h1 := hx x (by simp [Op.operands])
    split at hf
    · rename_i a ha
      cases hf
      rw [ha] at h1
      generalize hc : ev' x = x' at h1
      cases h1 with
      | ptr i hp => exact ⟨_, by simp [execOp, hc], .ptr i hp⟩
    · cases hf
  · rename_i op t x y yt
    obtain ⟨v', h1, h2⟩ := abinOp_sim (P := P) (w := w) (ox := x) (oy := y) hf (hx x (by simp [Op.operands])) (hx y (by simp [Op.operands]))
    refine ⟨v', ?_, h2⟩
    simp only [Sem.run_bind] at h1
    cases hr : (eqGuard op t x y (ev' x) (ev' y)).run P w with
    | ok u w1 => rw [hr] at h1; simp at h1; simp [execOp, hr, h1]
    | halt x w1 => rw [hr] at h1; simp at h1
  · rename_i op t x
    obtain ⟨v', h1, h2⟩ := aunOp_sim (P := P) (w := w) hf (hx x (by simp [Op.operands]))
    exact ⟨v', by simp [execOp, h1], h2⟩
  · rename_i s d x
    have h1 := hx x (by simp [Op.operands])
    split at hf
    · rename_i ds k k' n hs hd he
      cases hf
      rw [he] at h1
      exact ⟨_, by simp [execOp, convert, run_underlying hs, run_underlying hd, h1.int_inv, Conv.intToInt], .int _ _⟩
    · rename_i ds s' hs hd he
      cases hf
      rw [he] at h1
      generalize hc : ev' x = x' at h1
      cases h1
      exact ⟨_, by simp [execOp, convert, run_underlying hs, run_underlying hd, hc], .string _⟩
    · cases hf
  · rename_i t x lo hi mx
    have hm : ∀ a, (lo = some a ∨ hi = some a ∨ mx = some a) → VR ρ (ev a) (ev' a) := fun a ha => hx a (by
      simp [Op.operands]
      rcases ha with rfl | rfl | rfl <;> simp)
    obtain ⟨v', h1, h2⟩ := aslice_sim H hf (hx x (by simp [Op.operands])) (OpR.of_map fun a ha => hm a (.inl ha)) (OpR.of_map fun a ha => hm a (.inr (.inl ha))) (OpR.of_map fun a ha => hm a (.inr (.inr ha)))
    exact ⟨v', by simp [execOp, h1], h2⟩
  · rename_i s x f
    obtain ⟨v', h1, h2⟩ := afieldAddr_sim (w := w) hf (hx x (by simp [Op.operands]))
    exact ⟨v', by simp [execOp, h1], h2⟩
  · rename_i t x f
    obtain ⟨v', h1, h2⟩ := afield_sim (w := w) hf (hx x (by simp [Op.operands]))
    exact ⟨v', by simp [execOp, h1], h2⟩
  · rename_i t x i
    obtain ⟨v', h1, h2⟩ := aindexAddr_sim (w := w) hf (hx x (by simp [Op.operands])) (hx i (by simp [Op.operands]))
    exact ⟨v', by simp [execOp, h1], h2⟩
  · rename_i t x i
    obtain ⟨v', h1, h2⟩ := aindex_sim (w := w) hf (hx x (by simp [Op.operands])) (hx i (by simp [Op.operands]))
    exact ⟨v', by simp [execOp, h1], h2⟩
  · rename_i t i
    have h1 := hx t (by simp [Op.operands])
    split at hf
    · rename_i vs ht
      rw [ht] at h1
      obtain ⟨ys, hy, hl⟩ := h1.tuple_inv
      obtain ⟨y, hy', hv⟩ := hl.get (i := i) (x := v) (by simpa using hf)
      exact ⟨y, by simp at hy'; simp [execOp, hy, Instr.extract, hy'], hv⟩
    · cases hf
  · rename_i fn first captured
    split at hf
    · rename_i f
      cases hf
      have h1 : ∀ a ∈ first.toList, VR ρ (ev a) (ev' a) := fun a ha => hx a (by simp [Op.operands]; exact .inl (by simpa using ha))
      have h2 : ∀ a ∈ captured.toList, VR ρ (ev a) (ev' a) := fun a ha => hx a (by simp [Op.operands]; exact .inr (by simpa using ha))
      refine ⟨.func (.func f) (first.map ev') (captured.map ev'), by simp [execOp, Instr.makeFunc], .func _ _ _ _ _ _ (.func f) (by simp) ?_ (by simp) ?_⟩
      · intro i x y hx' hy'
        exact (LR.map_ops h1).2 i x y (by simpa using hx') (by simpa using hy')
      · intro i x y hx' hy'
        exact (LR.map_ops h2).2 i x y (by simpa using hx') (by simpa using hy')
    · cases hf
  · rename_i b args argTypes
    have hargs : LR ρ (args.toList.map ev) (args.toList.map ev') := LR.map_ops fun a ha => hx a (by simp [Op.operands, Call.operands]; simpa using ha)
    have hmap : (args.map ev').toList = args.toList.map ev' := by simp
    split at hf
    · rename_i x hax
      simp only [Option.bind_eq_bind] at hf
      cases ht : argTypes[0]? with
      | none => simp [ht] at hf
      | some t =>
        simp only [ht, Option.bind_some] at hf
        have ha : args = #[x] := by rw [← Array.toArray_toList (xs := args), hax]
        subst ha
        have h1 := hx x (by simp [Op.operands, Call.operands])
        obtain ⟨v', h2, h3⟩ := alen_sim (P := P) (w := w) (ty := type) hf h1
        refine ⟨v', ?_, h3⟩
        have : (Builtin.len_ argTypes type #[ev' x]).run P w = .ok v' w := by
          rw [← h2]; simp [Builtin.len_, ht]
        simp [execOp, resolve, invoke, builtin, this]
    · rename_i x hax
      simp only [Option.bind_eq_bind] at hf
      cases ht : argTypes[0]? with
      | none => simp [ht] at hf
      | some t =>
        simp only [ht, Option.bind_some] at hf
        have ha : args = #[x] := by rw [← Array.toArray_toList (xs := args), hax]
        subst ha
        have h1 := hx x (by simp [Op.operands, Call.operands])
        obtain ⟨v', h2, h3⟩ := acap_sim (P := P) (w := w) (ty := type) hf h1
        refine ⟨v', ?_, h3⟩
        have : (Builtin.cap_ argTypes type #[ev' x]).run P w = .ok v' w := by
          rw [← h2]; simp [Builtin.cap_, ht]
        simp [execOp, resolve, invoke, builtin, this]
    · obtain ⟨v', h2, h3⟩ := amin_sim (P := P) (w := w) (ts := argTypes) (ty := type) hf hargs
      refine ⟨v', ?_, h3⟩
      simp only [Bool.false_eq_true, if_false] at h2
      rw [← hmap, Array.toArray_toList] at h2
      simp [execOp, resolve, invoke, builtin, h2]
    · obtain ⟨v', h2, h3⟩ := amin_sim (P := P) (w := w) (ts := argTypes) (ty := type) hf hargs
      refine ⟨v', ?_, h3⟩
      simp only [if_true] at h2
      rw [← hmap, Array.toArray_toList] at h2
      simp [execOp, resolve, invoke, builtin, h2]
    · cases hf
  · cases hf

end Go.Am
