/-
  The abstract machine: a region that draws its order ends, in whatever order, as in the order of the text.
-/
import Derived.Test.YtkiognclopmciaaDoorAmDraw
namespace Go.Am
open Go Go.RowKit

variable {P : Program} {ρ : Ren} {w0 w : World} {ops : Array Oper} {T : Nat → Tmps} {Hh : Nat → AHeap} {V : Nat → Value}

structure ROk (ops : Array Oper) : Prop where
  lt : ∀ (j : Nat) (o : Oper), ops[j]? = some o → ∀ e ∈ o.after.toList, Region.binds .any e = true → e.on < j
  pair : ∀ (i j : Nat) (oi oj : Oper), i < j → ops[i]? = some oi → ops[j]? = some oj → pairOk ops (preds ops.toList) i j oi oj = true

theorem regionOk_spec (h : regionOk ops = true) : ROk ops := by
  unfold regionOk at h
  have key : ∀ (j : Nat) (o : Oper), ops[j]? = some o → (o, j) ∈ ops.toList.zipIdx := fun j o ho => by
    rw [List.mem_zipIdx_iff_getElem?]
    simpa using ho
  have h' := List.all_eq_true.1 h
  constructor
  · intro j o ho e he hb
    have := h' _ (key j o ho)
    simp only [Bool.and_eq_true] at this
    have := List.all_eq_true.1 this.1.1 e he
    simp only [Bool.or_eq_true, Bool.not_eq_true', hb] at this
    rcases this with h | h
    · cases h
    · simpa [Nat.blt_eq] using h
  · intro i j oi oj hij hoi hoj
    have := h' _ (key j oj hoj)
    simp only [Bool.and_eq_true] at this
    have := List.all_eq_true.1 this.2 _ (key i oi hoi)
    have hb : Nat.blt i j = true := by simpa [Nat.blt_eq] using hij
    simpa [hb] using this

theorem pairOk_spec {pr : List Nat} {i j : Nat} {oi oj : Oper} (h : pairOk ops pr i j oi oj = true) : (pr.getD j 0).testBit i = true ∨
    ((∀ d, oi.dst = some d → d ∉ looks ops oj ∧ oj.dst ≠ some d) ∧ (∀ d, oj.dst = some d → d ∉ looks ops oi) ∧
      (quietOp oi = true ∧ quietOp oj = true ∨ quietOp oi = true ∧ isLoad oi = false ∨ quietOp oj = true ∧ isLoad oj = false)) := by
  unfold pairOk at h
  simp only [Bool.or_eq_true, Bool.and_eq_true, Bool.not_eq_true'] at h
  rcases h with h | ⟨⟨h1, h2⟩, h3⟩
  · exact .inl h
  · refine .inr ⟨fun d hd => ?_, fun d hd => ?_, ?_⟩
    · rw [hd] at h1
      simp only [Bool.and_eq_true, Bool.not_eq_true', bne_iff_ne, ne_eq] at h1
      exact ⟨fun hm => by rw [List.contains_iff_mem.2 hm] at h1; exact absurd h1.1 (by simp), h1.2⟩
    · rw [hd] at h2
      simp only [Bool.not_eq_true'] at h2
      exact fun hm => by rw [List.contains_iff_mem.2 hm] at h2; cases h2
    · rcases h3 with (h3 | h3) | h3
      · exact .inl h3
      · exact .inr (.inl h3)
      · exact .inr (.inr h3)

theorem apure_indep {ev : Operand → Value} {h h2 : AHeap} {o : Oper} (hl : isLoad o = false) : apure P ev h o = apure P ev h2 o := by
  unfold apure
  unfold isLoad at hl
  cases ho : o.op with
  | call c => obtain ⟨callee, args, ats⟩ := c; cases callee <;> rfl
  | load t a => simp [ho] at hl
  | slice t x lo hi mx => simp [ho] at hl
  | _ => rfl

structure DInv (P : Program) (ρ : Ren) (w0 : World) (ops : Array Oper) (T : Nat → Tmps) (Hh : Nat → AHeap) (V : Nat → Value) (listed : Array Bool) (a : Act) (w : World) : Prop where
  size : listed.size = ops.size
  closed : ∀ (j : Nat) (o : Oper), ops[j]? = some o → listed.getD j false = true → ∀ e ∈ o.after.toList, Region.binds .any e = true → listed.getD e.on false = true
  tsize : (T 0).size = a.tmps.size
  lastw : ∀ (j : Nat) (o : Oper) (t : Nat), ops[j]? = some o → listed.getD j false = true → o.dst = some t → (∀ (k : Nat) (o' : Oper), j < k → ops[k]? = some o' → listed.getD k false = true → o'.dst ≠ some t) →
    VR ρ (V j) (a.tmps.getD t undef)
  nowr : ∀ t : Nat, (∀ (k : Nat) (o' : Oper), ops[k]? = some o' → listed.getD k false = true → o'.dst ≠ some t) → VR ρ ((T 0).get t) (a.tmps.getD t undef)
  heap : ∃ m, m ≤ ops.size ∧ HR P ρ w0 (Hh m) w ∧ ∀ (k : Nat) (o : Oper), ops[k]? = some o → quietOp o = false → (listed.getD k false = true ↔ k < m)

theorem getD_set {listed : Array Bool} {i : Nat} (hi : i < listed.size) (k : Nat) : (listed.setIfInBounds i true).getD k false = if k = i then true else listed.getD k false := by
  by_cases hk : k = i
  · subst hk; simp [hi]
  · rw [if_neg hk]
    simp only [Array.getD_eq_getD_getElem?]
    rw [Array.getElem?_setIfInBounds_ne (by omega)]

variable {listed : Array Bool} {a : Act}

/-- One more operation, one that is ready. -/
theorem DInv.step (R : ROk ops) (C : Canon P ops T Hh V) (D : DInv P ρ w0 ops T Hh V listed a w) {i : Nat} {o : Oper} (ho : ops[i]? = some o) (hun : listed.getD i false = false)
    (hdir : ∀ e ∈ o.after.toList, Region.binds .any e = true → listed.getD e.on false = true) (b : Frame) (rest : List Nat) (todo : List Item) (cs : List Frame) :
    ∃ ρ' a' w', Sub ρ ρ' ∧ a'.defers = a.defers ∧ DInv P ρ' w0 ops T Hh V (listed.setIfInBounds i true) a' w' ∧
      Steps P (lone (b.atR a (.inRegion ops (i :: rest) :: todo)) cs w) (lone (b.atR a' (.inRegion ops rest :: todo)) cs w') := by
  have hi : i < ops.size := (Array.getElem?_eq_some_iff.1 ho).1
  have hlt := R.lt
  -- what is listed is closed under all that must come before
  have clo : ∀ (j : Nat) (oj : Oper), ops[j]? = some oj → (∀ e ∈ oj.after.toList, Region.binds .any e = true → listed.getD e.on false = true) →
      ∀ k, ((preds ops.toList).getD j 0).testBit k = true → listed.getD k false = true := fun j oj hoj hd k hk =>
    preds_closed ops.toList (fun k => listed.getD k false = true) (fun j o h => hlt j o (by simpa using h)) (fun j o h hs => D.closed j o (by simpa using h) hs) j oj (by simpa using hoj) hd k hk
  have before : ∀ (k : Nat), ((preds ops.toList).getD i 0).testBit k = true → listed.getD k false = true := clo i o ho hdir
  have behind : ∀ (k : Nat) (ok : Oper), ops[k]? = some ok → ((preds ops.toList).getD k 0).testBit i = true → listed.getD k false = false := fun k ok hok hb => by
    cases hl : listed.getD k false with
    | false => rfl
    | true => have := clo k ok hok (D.closed k ok hok hl) i hb; rw [hun] at this; cases this
  -- who writes what we look at
  have writers : ∀ (t : Nat), t ∈ looks ops o → ∀ (k : Nat) (ok : Oper), ops[k]? = some ok → k ≠ i → ok.dst = some t → (listed.getD k false = true ↔ k < i) := by
    intro t ht k ok hok hki hd
    rcases Nat.lt_or_gt_of_ne hki with h | h
    · refine ⟨fun _ => h, fun _ => ?_⟩
      rcases pairOk_spec (R.pair k i ok o h hok ho) with hb | ⟨h1, _, _⟩
      · exact before k hb
      · exact absurd ht (h1 t hd).1
    · refine ⟨fun hl => ?_, fun hlt => by omega⟩
      rcases pairOk_spec (R.pair i k o ok h ho hok) with hb | ⟨_, h2, _⟩
      · rw [behind k ok hok hb] at hl; cases hl
      · exact absurd ht (h2 t hd)
  have look : ∀ (t : Nat), t ∈ looks ops o → VR ρ ((T i).get t) (a.tmps.getD t undef) := by
    intro t ht
    rcases C.last t i (by omega) with ⟨j, oj, h1, h2, h3, h4, h5⟩ | ⟨h1, h2⟩
    · rw [h5]
      refine D.lastw j oj t h2 ((writers t ht j oj h2 (by omega) h3).2 h1) h3 fun k ok hk hok hl hd => ?_
      by_cases hki : k = i
      · subst hki; rw [hun] at hl; cases hl
      · exact h4 k ok hk ((writers t ht k ok hok hki hd).1 hl) hok hd
    · rw [h2]
      refine D.nowr t fun k ok hok hl hd => ?_
      by_cases hki : k = i
      · subst hki; rw [hun] at hl; cases hl
      · exact h1 k ok ((writers t ht k ok hok hki hd).1 hl) hok hd
  obtain ⟨m, hm, Hm, hwm⟩ := D.heap
  have heapEq : (quietOp o = false ∨ isLoad o = true) → Hh m = Hh i := by
    intro hq
    refine C.heap_eq (by omega) hm fun k ok hok hqk => ?_
    rw [← hwm k ok hok hqk]
    by_cases hki : k = i
    · subst hki; rw [hun]; simp
    · rcases Nat.lt_or_gt_of_ne hki with h | h
      · refine ⟨fun _ => h, fun _ => ?_⟩
        rcases pairOk_spec (R.pair k i ok o h hok ho) with hb | ⟨_, _, h3⟩
        · exact before k hb
        · rw [hqk] at h3
          rcases h3 with h3 | h3 | h3
          · cases h3.1
          · cases h3.1
          · rcases hq with hq | hq
            · rw [hq] at h3; cases h3.1
            · rw [hq] at h3; cases h3.2
      · refine ⟨fun hl => ?_, fun hlt => by omega⟩
        rcases pairOk_spec (R.pair i k o ok h ho hok) with hb | ⟨_, _, h3⟩
        · rw [behind k ok hok hb] at hl; cases hl
        · rw [hqk] at h3
          rcases h3 with h3 | h3 | h3
          · cases h3.2
          · rcases hq with hq | hq
            · rw [hq] at h3; cases h3.1
            · rw [hq] at h3; cases h3.2
          · cases h3.1
  -- the operation itself: what it yields, and the new state
  have core : ∃ ρ' v' w', Sub ρ ρ' ∧ VR ρ' (V i) v' ∧ (∃ m', m' ≤ ops.size ∧ HR P ρ' w0 (Hh m') w' ∧ ∀ (k : Nat) (ok : Oper), ops[k]? = some ok → quietOp ok = false → ((listed.setIfInBounds i true).getD k false = true ↔ k < m')) ∧
      Steps P (lone (b.atR a (.inRegion ops (i :: rest) :: todo)) cs w) (lone (b.atR (a.put o.dst v') (.inRegion ops rest :: todo)) cs w') := by
    have hone := C.one i o ho
    have hsz := C.size i (by omega)
    have hwant : awanted ops (T i) o = Region.wanted o (yielded ops a.tmps) := by
      unfold awanted Region.wanted
      cases hg : o.guard with
      | none => rfl
      | some g =>
        obtain ⟨j, want⟩ := g
        simp only
        have : ayielded ops (T i) j = yielded ops a.tmps j := by
          unfold ayielded yielded
          have he : ops.toList[j]? = ops[j]? := by simp
          rw [he]
          cases hd : ((ops[j]?).bind (·.dst) : Option Nat) with
          | none => simp
          | some d =>
            have hmem : d ∈ looks ops o := by simp [looks, hg, hd]
            have hv := look d hmem
            simp only [Option.bind_some]
            by_cases hlt : d < (T i).size
            · have e1 : Nat.blt d (T i).size = true := by simpa [Nat.blt_eq] using hlt
              have e2 : a.tmps[d]? = some (a.tmps.getD d undef) := by
                have : d < a.tmps.size := by rw [← D.tsize, ← hsz]; exact hlt
                simp [this]
              rw [e2]
              simp only [e1, if_true]
              generalize (T i).get d = x at hv ⊢
              generalize a.tmps.getD d undef = y at hv ⊢
              cases hv <;> rfl
            · have e1 : Nat.blt d (T i).size = false := by
                cases e : Nat.blt d (T i).size with
                | false => rfl
                | true => exact absurd (by simpa [Nat.blt_eq] using e) hlt
              have e2 : a.tmps[d]? = none := by
                have : ¬ d < a.tmps.size := by rw [← D.tsize, ← hsz]; exact hlt
                simp [this]
              simp [e1, e2]
        rw [this]
    have listedQuiet : quietOp o = true → ∀ (k : Nat) (ok : Oper), ops[k]? = some ok → quietOp ok = false → ((listed.setIfInBounds i true).getD k false = true ↔ k < m) := by
      intro hq k ok hok hqk
      have hki : k ≠ i := fun e => by subst e; rw [ho] at hok; cases hok; rw [hq] at hqk; cases hqk
      rw [getD_set (by rw [D.size]; exact hi), if_neg hki]
      exact hwm k ok hok hqk
    unfold canonOne at hone
    split at hone
    · rename_i hw
      have hw' : Region.wanted o (yielded ops a.tmps) = true := by rw [← hwant]; exact hw
      split at hone
      · rename_i hok
        have hops : ∀ x ∈ o.op.operands.toList, VR ρ (aev (T i) x) (a.eval x) := by
          intro x hx
          have hall : o.op.operands.toList.all (okOperand P) = true := by
            unfold okOper at hok
            split at hok
            · cases hok
            · cases hok
            · exact hok
          have hokx := List.all_eq_true.1 hall x hx
          cases x with
          | tmp t =>
            refine look t ?_
            simp only [looks, List.mem_append, List.mem_filterMap]
            exact .inl ⟨.tmp t, hx, rfl⟩
          | const v => exact plainV_sim hokx
          | global g =>
            obtain ⟨p, hp, hb, hs⟩ := Hm.glob g (by simpa [okOperand, Nat.blt_eq] using hokx)
            have := VR.ptr (ρ := ρ) 0 hp
            rw [hb, hs] at this
            simpa [Act.eval, aev] using this
          | func g => exact .func _ _ _ _ _ _ (.func g) rfl (fun i x y h => by simp at h) rfl (fun i x y h => by simp at h)
        split at hone
        · rename_i hq
          simp only [Option.map_eq_some_iff] at hone
          obtain ⟨u, hu, he⟩ := hone
          have he1 : u = V i := congrArg Prod.fst he
          have he2 : Hh i = Hh (i + 1) := congrArg Prod.snd he
          subst he1
          have hum : apure P (aev (T i)) (Hh m) o = some (V i) := by
            cases hl : isLoad o with
            | true => rw [heapEq (.inr hl)]; exact hu
            | false => rw [apure_indep hl (h2 := Hh i)]; exact hu
          obtain ⟨v', h1, h2⟩ := apure_sim Hm hum hops
          exact ⟨ρ, v', w, Sub.refl ρ, h2, ⟨m, hm, Hm, listedQuiet hq⟩, .one (stepR_value ho hw' (okOper_defer hok) h1 (.inl rfl))⟩
        · rename_i hq
          have hq' : quietOp o = false := by simpa using hq
          split at hone
          · rename_i v h1 ha
            have he1 : v = V i := congrArg Prod.fst (Option.some.inj hone)
            have he2 : h1 = Hh (i + 1) := congrArg Prod.snd (Option.some.inj hone)
            subst he1
            rw [he2] at ha
            have hme := heapEq (.inl hq')
            rw [hme] at Hm
            obtain ⟨ρ', v', n, w', hr, hnx, hs, H', hv⟩ := aeff_value Hm ha hops
            refine ⟨ρ', v', w', hs, hv, ⟨i + 1, hi, H', fun k ok hok' hqk => ?_⟩, .one (stepR_value ho hw' (okOper_defer hok) hr hnx)⟩
            rw [getD_set (by rw [D.size]; exact hi)]
            by_cases hki : k = i
            · subst hki; simp
            · rw [if_neg hki]
              have h1 := hwm k ok hok' hqk
              -- what is listed of the writers is what stands before
              have h2 : (listed.getD k false = true ↔ k < i) := by
                rcases Nat.lt_or_gt_of_ne hki with h | h
                · refine ⟨fun _ => h, fun _ => ?_⟩
                  rcases pairOk_spec (R.pair k i ok o h hok' ho) with hb | ⟨_, _, h3⟩
                  · exact before k hb
                  · rw [hqk, hq'] at h3
                    rcases h3 with h3 | h3 | h3 <;> cases h3.1
                · refine ⟨fun hl => ?_, fun hlt => by omega⟩
                  rcases pairOk_spec (R.pair i k o ok h ho hok') with hb | ⟨_, _, h3⟩
                  · rw [behind k ok hok' hb] at hl; cases hl
                  · rw [hqk, hq'] at h3
                    rcases h3 with h3 | h3 | h3 <;> cases h3.1
              rw [h2]; omega
          · cases hone
      · cases hone
    · rename_i hw
      have hw' : Region.wanted o (yielded ops a.tmps) = false := by rw [← hwant]; simpa using hw
      have he1 : undef = V i := congrArg Prod.fst (Option.some.inj hone)
      have he2 : Hh i = Hh (i + 1) := congrArg Prod.snd (Option.some.inj hone)
      have hstep := stepR_op_skip (P := P) (b := b) (a := a) (k := todo) (cs := cs) (w := w) (ops := ops) (i := i) (rest := rest) (by simp [ho, hw'])
      simp only [ho, Option.bind_some] at hstep
      cases hq : quietOp o with
      | true => exact ⟨ρ, undef, w, Sub.refl ρ, by rw [← he1]; exact VR.undef ρ, ⟨m, hm, Hm, listedQuiet hq⟩, .one hstep⟩
      | false =>
        have hme := heapEq (.inl hq)
        rw [hme, he2] at Hm
        refine ⟨ρ, undef, w, Sub.refl ρ, by rw [← he1]; exact VR.undef ρ, ⟨i + 1, hi, Hm, fun k ok hok' hqk => ?_⟩, .one hstep⟩
        rw [getD_set (by rw [D.size]; exact hi)]
        by_cases hki : k = i
        · subst hki; simp
        · rw [if_neg hki]
          have h2 : (listed.getD k false = true ↔ k < i) := by
            rcases Nat.lt_or_gt_of_ne hki with h | h
            · refine ⟨fun _ => h, fun _ => ?_⟩
              rcases pairOk_spec (R.pair k i ok o h hok' ho) with hb | ⟨_, _, h3⟩
              · exact before k hb
              · rw [hqk, hq] at h3
                rcases h3 with h3 | h3 | h3 <;> cases h3.1
            · refine ⟨fun hl => ?_, fun hlt => by omega⟩
              rcases pairOk_spec (R.pair i k o ok h ho hok') with hb | ⟨_, _, h3⟩
              · rw [behind k ok hok' hb] at hl; cases hl
              · rw [hqk, hq] at h3
                rcases h3 with h3 | h3 | h3 <;> cases h3.1
          rw [h2]; omega
  obtain ⟨ρ', v', w', hs, hv, hheap, hst⟩ := core
  have hil : i < listed.size := by rw [D.size]; exact hi
  have hdst := C.dst i o ho
  refine ⟨ρ', a.put o.dst v', w', hs, by cases o.dst <;> rfl, ⟨by simp [D.size], fun j oj hoj hl e he hb => ?_, ?_, fun j oj t hoj hl hd hlater => ?_, fun t hnone => ?_, hheap⟩, hst⟩
  · rw [getD_set hil]
    split
    · rfl
    · rw [getD_set hil] at hl
      by_cases hji : j = i
      · subst hji; rw [ho] at hoj; cases hoj; exact hdir e he hb
      · rw [if_neg hji] at hl; exact D.closed j oj hoj hl e he hb
  · rw [D.tsize]; cases o.dst <;> simp [Act.put]
  · by_cases hji : j = i
    · subst hji
      rw [ho] at hoj; cases hoj
      rw [hd] at hdst ⊢
      have hlt : t < a.tmps.size := by rw [← D.tsize, ← C.size j (by omega)]; exact okDst_lt hdst
      simpa [Act.put, hlt] using hv
    · rw [getD_set hil, if_neg hji] at hl
      by_cases hdi : o.dst = some t
      · -- the new writer is not behind the last one
        exfalso
        rcases Nat.lt_or_gt_of_ne hji with h | h
        · exact hlater i o h ho (by rw [getD_set hil, if_pos rfl]) hdi
        · rcases pairOk_spec (R.pair i j o oj h ho hoj) with hb | ⟨h1, _, _⟩
          · rw [behind j oj hoj hb] at hl; cases hl
          · exact (h1 t hdi).2 hd
      · have hget : (a.put o.dst v').tmps.getD t undef = a.tmps.getD t undef := by
          cases he : (o.dst : Option Nat) with
          | none => rfl
          | some d =>
            have : d ≠ t := fun e => hdi (by rw [he, e])
            simp only [Act.put, Array.getD_eq_getD_getElem?]
            rw [Array.getElem?_setIfInBounds_ne this]
        rw [hget]
        refine (D.lastw j oj t hoj hl hd fun k ok hk hok hlk => ?_).mono hs
        exact hlater k ok hk hok (by rw [getD_set hil]; split <;> first | rfl | exact hlk)
  · have hdi : o.dst ≠ some t := hnone i o ho (by rw [getD_set hil, if_pos rfl])
    have hget : (a.put o.dst v').tmps.getD t undef = a.tmps.getD t undef := by
      cases he : (o.dst : Option Nat) with
      | none => rfl
      | some d =>
        have : d ≠ t := fun e => hdi (by rw [he, e])
        simp only [Act.put, Array.getD_eq_getD_getElem?]
        rw [Array.getElem?_setIfInBounds_ne this]
    rw [hget]
    refine (D.nowr t fun k ok hok hlk => hnone k ok hok (by rw [getD_set hil]; split <;> first | rfl | exact hlk)).mono hs

end Go.Am
