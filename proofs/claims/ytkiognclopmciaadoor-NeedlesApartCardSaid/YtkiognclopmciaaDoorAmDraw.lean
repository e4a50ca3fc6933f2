/-
  The abstract machine: a region that draws its order.
-/
import Derived.Test.YtkiognclopmciaaDoorAmStep
namespace Go.Am
open Go Go.RowKit

variable {P : Program} {ρ : Ren} {w0 w : World}

/-- The states of a region's operations in the order of the text. -/
structure Canon (P : Program) (ops : Array Oper) (T : Nat → Tmps) (Hh : Nat → AHeap) (V : Nat → Value) : Prop where
  dst : ∀ (k : Nat) (o : Oper), ops[k]? = some o → okDst (T k) o.dst = true
  one : ∀ (k : Nat) (o : Oper), ops[k]? = some o → canonOne P ops o (T k) (Hh k) = some (V k, Hh (k + 1))
  put : ∀ (k : Nat) (o : Oper), ops[k]? = some o → T (k + 1) = putT (T k) o.dst (V k)

theorem canon_states (ops : Array Oper) : ∀ (l : List Oper) (n : Nat) (tmps tmps' : Tmps) (h h' : AHeap), canon P ops l tmps h = some (tmps', h') → l = ops.toList.drop n → n ≤ ops.size →
    ∃ (T : Nat → Tmps) (Hh : Nat → AHeap) (V : Nat → Value), T n = tmps ∧ Hh n = h ∧ T ops.size = tmps' ∧ Hh ops.size = h' ∧
      ∀ (k : Nat) (o : Oper), n ≤ k → ops[k]? = some o → okDst (T k) o.dst = true ∧ canonOne P ops o (T k) (Hh k) = some (V k, Hh (k + 1)) ∧ T (k + 1) = putT (T k) o.dst (V k) := by
  intro l
  induction l with
  | nil =>
    intro n tmps tmps' h h' hc hl hn
    simp [canon] at hc
    obtain ⟨rfl, rfl⟩ := hc
    have hlen : ops.toList.length ≤ n := List.drop_eq_nil_iff.1 hl.symm
    have hlen' : ops.size ≤ n := by simpa using hlen
    have : n = ops.size := by omega
    subst this
    exact ⟨fun _ => tmps, fun _ => h, fun _ => undef, rfl, rfl, rfl, rfl, fun k o hk ho => by
      have := (Array.getElem?_eq_some_iff.1 ho).1; omega⟩
  | cons o l ih =>
    intro n tmps tmps' h h' hc hl hn
    obtain ⟨hlt, ho, hrest⟩ := drop_cons hl.symm
    simp only [canon] at hc
    split at hc
    · rename_i hd
      split at hc
      · rename_i v h1 h1c
        obtain ⟨T, Hh, V, e1, e2, e3, e4, e5⟩ := ih (n + 1) _ _ _ _ hc hrest hlt
        refine ⟨fun k => if k = n then tmps else T k, fun k => if k = n then h else Hh k, fun k => if k = n then v else V k, by simp, by simp, ?_, ?_, fun k o' hk ho' => ?_⟩
        · have : ops.size ≠ n := by omega
          simp [this, e3]
        · have : ops.size ≠ n := by omega
          simp [this, e4]
        · by_cases hkn : k = n
          · subst hkn
            rw [ho] at ho'
            cases ho'
            simp [hd, h1c, e1, e2]
          · have h2 : k + 1 ≠ n := by omega
            simp only [hkn, h2, if_false]
            exact e5 k o' (by omega) ho'
      · cases hc
    · cases hc

theorem okDst_lt {t : Tmps} {d : Nat} (h : okDst t (some d) = true) : d < t.size := by simpa [okDst, Nat.blt_eq] using h

variable {ops : Array Oper} {T : Nat → Tmps} {Hh : Nat → AHeap} {V : Nat → Value}

theorem Canon.size (C : Canon P ops T Hh V) : ∀ k, k ≤ ops.size → (T k).size = (T 0).size
  | 0, _ => rfl
  | k + 1, hk => by
    have hlt : k < ops.size := by omega
    rw [C.put k ops[k] (Array.getElem?_eq_getElem hlt)]
    rw [← C.size k (by omega)]
    cases ops[k].dst <;> rfl

/-- Who wrote a slot last. -/
theorem Canon.last (C : Canon P ops T Hh V) (t : Nat) : ∀ i, i ≤ ops.size →
    (∃ j o, j < i ∧ ops[j]? = some o ∧ o.dst = some t ∧ (∀ k o', j < k → k < i → ops[k]? = some o' → o'.dst ≠ some t) ∧ (T i).get t = V j) ∨
    ((∀ k o', k < i → ops[k]? = some o' → o'.dst ≠ some t) ∧ (T i).get t = (T 0).get t)
  | 0, _ => .inr ⟨fun k o' hk => absurd hk (by omega), rfl⟩
  | i + 1, hi => by
    have hlt : i < ops.size := by omega
    have ho : ops[i]? = some ops[i] := Array.getElem?_eq_getElem hlt
    have hput := C.put i ops[i] ho
    have hok := C.dst i ops[i] ho
    by_cases hd : ops[i].dst = some t
    · refine .inl ⟨i, ops[i], by omega, ho, hd, fun k o' h1 h2 => by omega, ?_⟩
      rw [hput, hd]
      simp only [putT]
      rw [Tmps.get_set, if_pos rfl]
    · have hget : (T (i + 1)).get t = (T i).get t := by
        rw [hput]
        cases he : (ops[i].dst : Option Nat) with
        | none => rfl
        | some d =>
          simp only [putT]
          rw [Tmps.get_set, if_neg]
          intro e
          subst e
          exact hd he
      rcases C.last t i (by omega) with ⟨j, o, h1, h2, h3, h4, h5⟩ | ⟨h1, h2⟩
      · refine .inl ⟨j, o, by omega, h2, h3, fun k o' hk hk' hko => ?_, by rw [hget]; exact h5⟩
        by_cases hki : k = i
        · subst hki; rw [ho] at hko; cases hko; exact hd
        · exact h4 k o' hk (by omega) hko
      · refine .inr ⟨fun k o' hk hko => ?_, by rw [hget]; exact h2⟩
        by_cases hki : k = i
        · subst hki; rw [ho] at hko; cases hko; exact hd
        · exact h1 k o' (by omega) hko

theorem canonOne_quiet {o : Oper} {t : Tmps} {h h' : AHeap} {v : Value} (hc : canonOne P ops o t h = some (v, h')) (hq : quietOp o = true) : h' = h := by
  unfold canonOne at hc
  split at hc
  · split at hc
    · simp only [Option.map_eq_some_iff] at hc
      obtain ⟨u, _, he⟩ := hc
      cases he; rfl
    · cases hc
  · cases hc; rfl

/-- Between two places without an operation that writes the heap is one. -/
theorem Canon.heap (C : Canon P ops T Hh V) (i : Nat) : ∀ d, i + d ≤ ops.size → (∀ k o, i ≤ k → k < i + d → ops[k]? = some o → quietOp o = true) → Hh (i + d) = Hh i
  | 0, _, _ => rfl
  | d + 1, hd, hq => by
    have hlt : i + d < ops.size := by omega
    have ho : ops[i + d]? = some ops[i + d] := Array.getElem?_eq_getElem hlt
    have := canonOne_quiet (C.one (i + d) _ ho) (hq (i + d) _ (by omega) (by omega) ho)
    rw [show i + (d + 1) = i + d + 1 from by omega, this]
    exact C.heap i d (by omega) fun k o h1 h2 h3 => hq k o h1 (by omega) h3

theorem Canon.heap_eq (C : Canon P ops T Hh V) {i m : Nat} (hi : i ≤ ops.size) (hm : m ≤ ops.size) (hq : ∀ k o, ops[k]? = some o → quietOp o = false → (k < m ↔ k < i)) : Hh m = Hh i := by
  rcases Nat.le_total i m with h | h
  · obtain ⟨d, rfl⟩ := Nat.exists_eq_add_of_le h
    refine C.heap i d hm fun k o h1 h2 h3 => ?_
    cases hqk : quietOp o with
    | true => rfl
    | false => have := (hq k o h3 hqk).1 h2; omega
  · obtain ⟨d, rfl⟩ := Nat.exists_eq_add_of_le h
    refine (C.heap m d hi fun k o h1 h2 h3 => ?_).symm
    cases hqk : quietOp o with
    | true => rfl
    | false => have := (hq k o h3 hqk).2 h2; omega

/-! What must come before. -/

def predOf (acc : List Nat) (o : Oper) : Nat := o.after.toList.foldl (fun s e => bif Region.binds .any e then s ||| 2 ^ e.on ||| acc.getD e.on 0 else s) 0

theorem preds_eq (l : List Oper) : preds l = l.foldl (fun acc o => acc ++ [predOf acc o]) [] := rfl

theorem predsFrom_spec : ∀ (l : List Oper) (acc : List Nat), (l.foldl (fun acc o => acc ++ [predOf acc o]) acc).length = acc.length + l.length ∧
    (∀ j, j < acc.length → (l.foldl (fun acc o => acc ++ [predOf acc o]) acc)[j]? = acc[j]?) ∧
    (∀ j o, l[j]? = some o → (l.foldl (fun acc o => acc ++ [predOf acc o]) acc)[acc.length + j]? = some (predOf ((l.foldl (fun acc o => acc ++ [predOf acc o]) acc).take (acc.length + j)) o))
  | [], acc => ⟨by simp, fun _ _ => rfl, fun j o h => by simp at h⟩
  | o :: l, acc => by
    obtain ⟨h1, h2, h3⟩ := predsFrom_spec l (acc ++ [predOf acc o])
    simp only [List.foldl_cons]
    refine ⟨by rw [h1]; simp; omega, fun j hj => ?_, fun j o' ho' => ?_⟩
    · rw [h2 j (by simp; omega), List.getElem?_append_left hj]
    · cases j with
      | zero =>
        simp at ho'
        subst ho'
        have htk : (l.foldl (fun acc o => acc ++ [predOf acc o]) (acc ++ [predOf acc o])).take acc.length = acc := by
          apply List.ext_getElem?
          intro j
          by_cases hj : j < acc.length
          · rw [List.getElem?_take_of_lt hj, h2 j (by simp; omega), List.getElem?_append_left hj]
          · rw [List.getElem?_eq_none (by simp; omega), List.getElem?_eq_none (by omega)]
        rw [Nat.add_zero, h2 acc.length (by simp), htk]
        simp
      | succ j =>
        have := h3 j o' (by simpa using ho')
        simp only [List.length_append, List.length_singleton] at this
        rw [show acc.length + (j + 1) = acc.length + 1 + j from by omega]
        exact this

theorem preds_spec (l : List Oper) (j : Nat) (o : Oper) (ho : l[j]? = some o) : (preds l).getD j 0 = predOf ((preds l).take j) o := by
  have := (predsFrom_spec l []).2.2 j o ho
  simp only [List.length_nil, Nat.zero_add] at this
  rw [preds_eq, List.getD_eq_getElem?_getD, this]
  rfl

theorem predOf_bit (acc : List Nat) (i : Nat) : ∀ (es : List Edge) (s : Nat), (es.foldl (fun s e => bif Region.binds .any e then s ||| 2 ^ e.on ||| acc.getD e.on 0 else s) s).testBit i = true →
    s.testBit i = true ∨ ∃ e ∈ es, Region.binds .any e = true ∧ (i = e.on ∨ (acc.getD e.on 0).testBit i = true)
  | [], s, h => .inl h
  | e :: es, s, h => by
    simp only [List.foldl_cons] at h
    rcases predOf_bit acc i es _ h with h1 | ⟨e', he', h2⟩
    · cases hb : Region.binds .any e with
      | false => simp [hb] at h1; exact .inl h1
      | true =>
        simp only [hb, cond_true, Nat.testBit_or, Bool.or_eq_true] at h1
        rcases h1 with (h1 | h1) | h1
        · exact .inl h1
        · refine .inr ⟨e, by simp, hb, .inl ?_⟩
          rw [Nat.testBit_two_pow] at h1
          have := of_decide_eq_true h1
          exact this.symm
        · exact .inr ⟨e, by simp, hb, .inr h1⟩
    · exact .inr ⟨e', by simp [he'], h2⟩

/-- What is closed under the direct predecessors is closed under all. -/
theorem preds_closed (l : List Oper) (S : Nat → Prop) (hlt : ∀ j o, l[j]? = some o → ∀ e ∈ o.after.toList, Region.binds .any e = true → e.on < j)
    (hcl : ∀ j o, l[j]? = some o → S j → ∀ e ∈ o.after.toList, Region.binds .any e = true → S e.on) :
    ∀ (j : Nat) (o : Oper), l[j]? = some o → (∀ e ∈ o.after.toList, Region.binds .any e = true → S e.on) → ∀ i, ((preds l).getD j 0).testBit i = true → S i := by
  intro j
  induction j using Nat.strongRecOn with
  | _ j ih =>
    intro o ho hd i hi
    rw [preds_spec l j o ho] at hi
    rcases predOf_bit _ i o.after.toList 0 hi with h | ⟨e, he, hb, h⟩
    · simp at h
    · have hej := hlt j o ho e he hb
      rcases h with rfl | h
      · exact hd e he hb
      · have hlen : e.on < l.length := by have := (List.getElem?_eq_some_iff.1 ho).1; omega
        have hoe : l[e.on]? = some l[e.on] := List.getElem?_eq_getElem hlen
        refine ih e.on hej l[e.on] hoe (hcl e.on _ hoe (hd e he hb)) i ?_
        rw [← h]
        congr 1
        rw [List.getD_eq_getElem?_getD, List.getD_eq_getElem?_getD, List.getElem?_take_of_lt hej]

end Go.Am
