/-
  The logic: a region that draws its order ends, in whatever order, as in the order of the text. Calls that leave the heap alone are quiet.
-/
import Derived.Test.YtkiognclopmciaaDoorAmLogic4
namespace Go.Am
open Go Go.RowKit

variable {P : Program} {ρ : Ren} {w0 w : World} {ops : Array Oper} {n : Nat} {heapy : Nat → Bool} {T : Nat → PT} {Hh : Nat → AHeap} {V : Nat → Value}

def pairOkL (ops : Array Oper) (pr : List Nat) (heapy : Nat → Bool) (i j : Nat) (oi oj : Oper) : Bool :=
  (pr.getD j 0).testBit i ||
  ((match oi.dst with | some d => !(looks ops oj).contains d && oj.dst != some d | none => true) &&
   (match oj.dst with | some d => !(looks ops oi).contains d | none => true) &&
   !(heapy i && heapy j))

def regionOkL (ops : Array Oper) (heapy : Nat → Bool) : Bool :=
  let l := ops.toList
  let pr := preds l
  let z := l.zipIdx
  z.all fun (oj, j) =>
    (oj.after.toList.all fun e => !Region.binds .any e || Nat.blt e.on j) &&
    (match oj.guard with | some (g, _) => Nat.blt g j | none => true) &&
    z.all fun (oi, i) => !Nat.blt i j || pairOkL ops pr heapy i j oi oj

/-- May the operation k stand where those before m that write are done, and no others? -/
def posOk (ops : Array Oper) (heapy : Nat → Bool) (k m : Nat) : Bool :=
  (List.range ops.size).all fun h => !heapy h || ((!((preds ops.toList).getD k 0).testBit h || Nat.blt h m) && (!((preds ops.toList).getD h 0).testBit k || Nat.ble m h))

/-- Is there a writer between two places? -/
def between (ops : Array Oper) (heapy : Nat → Bool) (k m : Nat) : Bool :=
  (List.range ops.size).any fun h => heapy h && (Nat.blt h k != Nat.blt h m)

/-- Where else an operation that only reads may stand. -/
def extras (ops : Array Oper) (heapy : Nat → Bool) : List (Nat × Nat) :=
  (List.range ops.size).flatMap fun k => if heapy k then [] else ((List.range (ops.size + 1)).filter fun m => posOk ops heapy k m && between ops heapy k m).map fun m => (k, m)

structure ROkL (ops : Array Oper) (heapy : Nat → Bool) : Prop where
  lt : ∀ (j : Nat) (o : Oper), ops[j]? = some o → ∀ e ∈ o.after.toList, Region.binds .any e = true → e.on < j
  pair : ∀ (i j : Nat) (oi oj : Oper), i < j → ops[i]? = some oi → ops[j]? = some oj → pairOkL ops (preds ops.toList) heapy i j oi oj = true

theorem regionOkL_spec (h : regionOkL ops heapy = true) : ROkL ops heapy := by
  unfold regionOkL at h
  have key : ∀ (j : Nat) (o : Oper), ops[j]? = some o → (o, j) ∈ ops.toList.zipIdx := fun j o ho => by
    rw [List.mem_zipIdx_iff_getElem?]
    simpa using ho
  have h' := List.all_eq_true.1 h
  constructor
  · intro j o ho e he hb
    have := h' _ (key j o ho)
    simp only [Bool.and_eq_true] at this
    have := List.all_eq_true.1 this.1.1 e he
    simp only [Bool.or_eq_true, Bool.not_eq_true', hb] at this
    rcases this with h | h
    · cases h
    · simpa [Nat.blt_eq] using h
  · intro i j oi oj hij hoi hoj
    have := h' _ (key j oj hoj)
    simp only [Bool.and_eq_true] at this
    have := List.all_eq_true.1 this.2 _ (key i oi hoi)
    have hb : Nat.blt i j = true := by simpa [Nat.blt_eq] using hij
    simpa [hb] using this

theorem pairOkL_spec {pr : List Nat} {i j : Nat} {oi oj : Oper} (h : pairOkL ops pr heapy i j oi oj = true) : (pr.getD j 0).testBit i = true ∨
    ((∀ d, oi.dst = some d → d ∉ looks ops oj ∧ oj.dst ≠ some d) ∧ (∀ d, oj.dst = some d → d ∉ looks ops oi) ∧ ¬ (heapy i = true ∧ heapy j = true)) := by
  unfold pairOkL at h
  simp only [Bool.or_eq_true, Bool.and_eq_true, Bool.not_eq_true'] at h
  rcases h with h | ⟨⟨h1, h2⟩, h3⟩
  · exact .inl h
  · refine .inr ⟨fun d hd => ?_, fun d hd => ?_, ?_⟩
    · rw [hd] at h1
      simp only [Bool.and_eq_true, Bool.not_eq_true', bne_iff_ne, ne_eq] at h1
      exact ⟨fun hm => by rw [List.contains_iff_mem.2 hm] at h1; exact absurd h1.1 (by simp), h1.2⟩
    · rw [hd] at h2
      simp only [Bool.not_eq_true'] at h2
      exact fun hm => by rw [List.contains_iff_mem.2 hm] at h2; cases h2
    · rintro ⟨a, b⟩
      rw [a, b] at h3
      cases h3

/-- One operation that is carried out, with what it yields. -/
abbrev OpX (P : Program) (o : Oper) (t : PT) (h : AHeap) (v : Value) (h1 : AHeap) : Prop := OpK P o t h (fun v' h' => v' = v ∧ h' = h1)

structure CanonL (P : Program) (n : Nat) (ops : Array Oper) (heapy : Nat → Bool) (T : Nat → PT) (Hh : Nat → AHeap) (V : Nat → Value) : Prop where
  dst : ∀ (k : Nat) (o : Oper), ops[k]? = some o → ∀ d, o.dst = some d → d < n
  put : ∀ (k : Nat) (o : Oper), ops[k]? = some o → T (k + 1) = upd (T k) o.dst (V k)
  quiet : ∀ (k : Nat) (o : Oper), ops[k]? = some o → heapy k = false → Hh (k + 1) = Hh k
  one : ∀ (k : Nat) (o : Oper), ops[k]? = some o → (pwanted ops (T k) o = some false ∧ V k = undef ∧ Hh (k + 1) = Hh k) ∨ (pwanted ops (T k) o = some true ∧ OpX P o (T k) (Hh k) (V k) (Hh (k + 1)))
  more : ∀ (k m : Nat) (o : Oper), ops[k]? = some o → heapy k = false → m ≤ ops.size → posOk ops heapy k m = true → pwanted ops (T k) o = some true → OpX P o (T k) (Hh m) (V k) (Hh m)

theorem CanonL.last (C : CanonL P n ops heapy T Hh V) (t : Nat) : ∀ i, i ≤ ops.size →
    (∃ (j : Nat) (o : Oper), j < i ∧ ops[j]? = some o ∧ o.dst = some t ∧ (∀ (k : Nat) (o' : Oper), j < k → k < i → ops[k]? = some o' → o'.dst ≠ some t) ∧ look? (T i) t = some (V j)) ∨
    ((∀ (k : Nat) (o' : Oper), k < i → ops[k]? = some o' → o'.dst ≠ some t) ∧ look? (T i) t = look? (T 0) t) := by
  intro i
  induction i with
  | zero => exact fun _ => .inr ⟨fun k _ h => by omega, rfl⟩
  | succ i ih =>
    intro hi
    have ho : ops[i]? = some ops[i] := Array.getElem?_eq_getElem (by omega)
    have hp := C.put i _ ho
    by_cases hd : ops[i].dst = some t
    · refine .inl ⟨i, ops[i], by omega, ho, hd, fun k o' h1 h2 => by omega, ?_⟩
      rw [hp, hd]
      simp [upd, look?]
    · have hsame : look? (T (i + 1)) t = look? (T i) t := by
        rw [hp]
        cases he : (ops[i].dst : Option Nat) with
        | none => rfl
        | some d =>
          have : ¬ t = d := fun e => hd (by rw [he, e])
          simp only [upd, look?]
          rw [beq_no this]
          rfl
      rcases ih (by omega) with ⟨j, o, h1, h2, h3, h4, h5⟩ | ⟨h1, h2⟩
      · refine .inl ⟨j, o, by omega, h2, h3, fun k o' hk hk' hok => ?_, by rw [hsame]; exact h5⟩
        by_cases hki : k = i
        · subst hki; rw [ho] at hok; cases hok; exact hd
        · exact h4 k o' hk (by omega) hok
      · refine .inr ⟨fun k o' hk hok => ?_, by rw [hsame]; exact h2⟩
        by_cases hki : k = i
        · subst hki; rw [ho] at hok; cases hok; exact hd
        · exact h1 k o' (by omega) hok

theorem CanonL.heap (C : CanonL P n ops heapy T Hh V) (i : Nat) : ∀ d, i + d ≤ ops.size → (∀ k, i ≤ k → k < i + d → heapy k = false) → Hh (i + d) = Hh i := by
  intro d
  induction d with
  | zero => intros; rfl
  | succ d ih =>
    intro h hq
    have ho : ops[i + d]? = some ops[i + d] := Array.getElem?_eq_getElem (by omega)
    rw [← ih (by omega) fun k h1 h2 => hq k h1 (by omega), ← C.quiet (i + d) _ ho (hq (i + d) (by omega) (by omega))]
    rfl

theorem CanonL.heap_eq (C : CanonL P n ops heapy T Hh V) {i m : Nat} (hi : i ≤ ops.size) (hm : m ≤ ops.size) (hq : ∀ k, k < ops.size → heapy k = true → (k < m ↔ k < i)) : Hh m = Hh i := by
  have hz : ∀ a b, a ≤ b → b ≤ ops.size → (∀ k, k < ops.size → heapy k = true → (k < b ↔ k < a)) → Hh b = Hh a := by
    intro a b hab hb hq
    have := C.heap a (b - a) (by omega) fun k h1 h2 => by
      cases hk : heapy k with
      | false => rfl
      | true => have := hq k (by omega) hk; omega
    rwa [show a + (b - a) = b from by omega] at this
  rcases Nat.le_total i m with h | h
  · exact hz i m h hm hq
  · exact (hz m i h hi fun k h1 h2 => (hq k h1 h2).symm).symm

structure DInvL (P : Program) (ρ : Ren) (w0 : World) (n : Nat) (ops : Array Oper) (heapy : Nat → Bool) (T : Nat → PT) (Hh : Nat → AHeap) (V : Nat → Value) (listed : Array Bool) (a : Act) (w : World) : Prop where
  size : listed.size = ops.size
  closed : ∀ (j : Nat) (o : Oper), ops[j]? = some o → listed.getD j false = true → ∀ e ∈ o.after.toList, Region.binds .any e = true → listed.getD e.on false = true
  tsize : a.tmps.size = n
  lastw : ∀ (j : Nat) (o : Oper) (t : Nat), ops[j]? = some o → listed.getD j false = true → o.dst = some t → (∀ (k : Nat) (o' : Oper), j < k → ops[k]? = some o' → listed.getD k false = true → o'.dst ≠ some t) →
    VR ρ (V j) (a.tmps.getD t undef)
  nowr : ∀ (t : Nat) (v : Value), (∀ (k : Nat) (o' : Oper), ops[k]? = some o' → listed.getD k false = true → o'.dst ≠ some t) → look? (T 0) t = some v → VR ρ v (a.tmps.getD t undef)
  heap : ∃ m, m ≤ ops.size ∧ HR P ρ w0 (Hh m) w ∧ ∀ (k : Nat), k < ops.size → heapy k = true → (listed.getD k false = true ↔ k < m)

variable {listed : Array Bool} {a : Act}

/-- One more operation, one that is ready. -/
theorem DInvL.step (R : ROkL ops heapy) (C : CanonL P n ops heapy T Hh V) (D : DInvL P ρ w0 n ops heapy T Hh V listed a w) {i : Nat} {o : Oper} (ho : ops[i]? = some o) (hun : listed.getD i false = false)
    (hdir : ∀ e ∈ o.after.toList, Region.binds .any e = true → listed.getD e.on false = true) (b : Frame) (hbk : b.kind = .normal) (rest : List Nat) (todo : List Item) (cs : List Frame) :
    ∃ ρ' a' w', Sub ρ ρ' ∧ a'.defers = a.defers ∧ DInvL P ρ' w0 n ops heapy T Hh V (listed.setIfInBounds i true) a' w' ∧
      Steps P (lone (b.atR a (.inRegion ops (i :: rest) :: todo)) cs w) (lone (b.atR a' (.inRegion ops rest :: todo)) cs w') := by
  have hi : i < ops.size := (Array.getElem?_eq_some_iff.1 ho).1
  have hlt := R.lt
  have clo : ∀ (j : Nat) (oj : Oper), ops[j]? = some oj → (∀ e ∈ oj.after.toList, Region.binds .any e = true → listed.getD e.on false = true) →
      ∀ k, ((preds ops.toList).getD j 0).testBit k = true → listed.getD k false = true := fun j oj hoj hd k hk =>
    preds_closed ops.toList (fun k => listed.getD k false = true) (fun j o h => hlt j o (by simpa using h)) (fun j o h hs => D.closed j o (by simpa using h) hs) j oj (by simpa using hoj) hd k hk
  have before : ∀ (k : Nat), ((preds ops.toList).getD i 0).testBit k = true → listed.getD k false = true := clo i o ho hdir
  have behind : ∀ (k : Nat) (ok : Oper), ops[k]? = some ok → ((preds ops.toList).getD k 0).testBit i = true → listed.getD k false = false := fun k ok hok hb => by
    cases hl : listed.getD k false with
    | false => rfl
    | true => have := clo k ok hok (D.closed k ok hok hl) i hb; rw [hun] at this; cases this
  have writers : ∀ (t : Nat), t ∈ looks ops o → ∀ (k : Nat) (ok : Oper), ops[k]? = some ok → k ≠ i → ok.dst = some t → (listed.getD k false = true ↔ k < i) := by
    intro t ht k ok hok hki hd
    rcases Nat.lt_or_gt_of_ne hki with h | h
    · refine ⟨fun _ => h, fun _ => ?_⟩
      rcases pairOkL_spec (R.pair k i ok o h hok ho) with hb | ⟨h1, _, _⟩
      · exact before k hb
      · exact absurd ht (h1 t hd).1
    · refine ⟨fun hl => ?_, fun hlt => by omega⟩
      rcases pairOkL_spec (R.pair i k o ok h ho hok) with hb | ⟨_, h2, _⟩
      · rw [behind k ok hok hb] at hl; cases hl
      · exact absurd ht (h2 t hd)
  have look : ∀ (t : Nat) (v : Value), t ∈ looks ops o → look? (T i) t = some v → VR ρ v (a.tmps.getD t undef) := by
    intro t v ht hv
    rcases C.last t i (by omega) with ⟨j, oj, h1, h2, h3, h4, h5⟩ | ⟨h1, h2⟩
    · rw [h5] at hv
      cases hv
      refine D.lastw j oj t h2 ((writers t ht j oj h2 (by omega) h3).2 h1) h3 fun k ok hk hok hl hd => ?_
      by_cases hki : k = i
      · subst hki; rw [hun] at hl; cases hl
      · exact h4 k ok hk ((writers t ht k ok hok hki hd).1 hl) hok hd
    · rw [h2] at hv
      refine D.nowr t v (fun k ok hok hl hd => ?_) hv
      by_cases hki : k = i
      · subst hki; rw [hun] at hl; cases hl
      · exact h1 k ok ((writers t ht k ok hok hki hd).1 hl) hok hd
  obtain ⟨m, hm, Hm, hwm⟩ := D.heap
  -- which writers are done
  have writing : heapy i = true → ∀ k, k < ops.size → k ≠ i → heapy k = true → (listed.getD k false = true ↔ k < i) := by
    intro hq k hks hki hqk
    have hok : ops[k]? = some ops[k] := Array.getElem?_eq_getElem hks
    rcases Nat.lt_or_gt_of_ne hki with h | h
    · refine ⟨fun _ => h, fun _ => ?_⟩
      rcases pairOkL_spec (R.pair k i _ o h hok ho) with hb | ⟨_, _, h3⟩
      · exact before k hb
      · exact absurd ⟨hqk, hq⟩ h3
    · refine ⟨fun hl => ?_, fun hlt => by omega⟩
      rcases pairOkL_spec (R.pair i k o _ h ho hok) with hb | ⟨_, _, h3⟩
      · rw [behind k _ hok hb] at hl; cases hl
      · exact absurd ⟨hq, hqk⟩ h3
  have heapEq : heapy i = true → Hh m = Hh i := by
    intro hq
    refine C.heap_eq (by omega) hm fun k hks hqk => ?_
    rw [← hwm k hks hqk]
    by_cases hki : k = i
    · subst hki; rw [hun]; simp
    · exact writing hq k hks hki hqk
  have pos : posOk ops heapy i m = true := by
    unfold posOk
    rw [List.all_eq_true]
    intro h hh
    have hhs : h < ops.size := List.mem_range.1 hh
    cases hhe : heapy h with
    | false => rfl
    | true =>
      have hk := hwm h hhs hhe
      have hoh : ops[h]? = some ops[h] := Array.getElem?_eq_getElem hhs
      have g1 : (!((preds ops.toList).getD i 0).testBit h || Nat.blt h m) = true := by
        cases hb : ((preds ops.toList).getD i 0).testBit h with
        | false => rfl
        | true => have := hk.1 (before h hb); simpa [Nat.blt_eq] using this
      have g2 : (!((preds ops.toList).getD h 0).testBit i || Nat.ble m h) = true := by
        cases hb : ((preds ops.toList).getD h 0).testBit i with
        | false => rfl
        | true =>
          have hn := behind h _ hoh hb
          have : ¬ h < m := fun hlt => by rw [hk.2 hlt] at hn; cases hn
          simp
          omega
      rw [g1, g2]; rfl
  have core : ∃ ρ' v' w', Sub ρ ρ' ∧ VR ρ' (V i) v' ∧ (∃ m', m' ≤ ops.size ∧ HR P ρ' w0 (Hh m') w' ∧ ∀ (k : Nat), k < ops.size → heapy k = true → ((listed.setIfInBounds i true).getD k false = true ↔ k < m')) ∧
      Steps P (lone (b.atR a (.inRegion ops (i :: rest) :: todo)) cs w) (lone (b.atR (a.put o.dst v') (.inRegion ops rest :: todo)) cs w') := by
    have hwant : ∀ r, pwanted ops (T i) o = some r → Region.wanted o (yielded ops a.tmps) = r := by
      intro r hp
      unfold pwanted at hp
      unfold Region.wanted
      split at hp
      · rename_i hg
        rw [hg]; cases hp; rfl
      · rename_i j want hg
        rw [hg]
        simp only
        split at hp
        · rename_i d hjd
          have hjd' : ((ops[j]?).bind (·.dst) : Option Nat) = some d := by simpa using hjd
          have hlt : d < n := by
            cases hoj : ops[j]? with
            | none => rw [hoj] at hjd'; cases hjd'
            | some o' => rw [hoj] at hjd'; exact C.dst j o' hoj d hjd'
          have e2 : a.tmps[d]? = some (a.tmps.getD d undef) := by
            have : d < a.tmps.size := by rw [D.tsize]; exact hlt
            simp [this]
          have hy : yielded ops a.tmps j = match a.tmps.getD d undef with | .bool b => some b | _ => none := by
            unfold yielded
            rw [hjd']
            simp only [Option.bind_some, e2]
            cases a.tmps.getD d undef <;> rfl
          have hmem : d ∈ looks ops o := by simp [looks, hg, hjd']
          rw [hy]
          split at hp
          · rename_i b hb
            have hv := look d _ hmem hb
            generalize a.tmps.getD d undef = y at hv
            cases hv
            cases hp
            simp
          · rename_i u hb
            have hv := look d _ hmem hb
            generalize a.tmps.getD d undef = y at hv
            cases hv
            cases hp
            rfl
          · cases hp
        · cases hp
    have hOT : OT ρ (T i) o a := fun t v ht hv => look t v (by simp only [looks, List.mem_append, List.mem_filterMap]; exact .inl ⟨.tmp t, ht, rfl⟩) hv
    have listedQuiet : heapy i = false → ∀ (k : Nat), k < ops.size → heapy k = true → ((listed.setIfInBounds i true).getD k false = true ↔ k < m) := by
      intro hq k hks hqk
      have hki : k ≠ i := fun e => by subst e; rw [hq] at hqk; cases hqk
      rw [getD_set (by rw [D.size]; exact hi), if_neg hki]
      exact hwm k hks hqk
    have listedHeapy : heapy i = true → ∀ (k : Nat), k < ops.size → heapy k = true → ((listed.setIfInBounds i true).getD k false = true ↔ k < i + 1) := by
      intro hq k hks hqk
      rw [getD_set (by rw [D.size]; exact hi)]
      by_cases hki : k = i
      · subst hki; simp
      · rw [if_neg hki, writing hq k hks hki hqk]; omega
    rcases C.one i o ho with ⟨hw, hV, hH⟩ | ⟨hw, hop⟩
    · have hw' := hwant _ hw
      have hstep := stepR_op_skip (P := P) (b := b) (a := a) (k := todo) (cs := cs) (w := w) (ops := ops) (i := i) (rest := rest) (by simp [ho, hw'])
      simp only [ho, Option.bind_some] at hstep
      cases hq : heapy i with
      | false => exact ⟨ρ, undef, w, Sub.refl ρ, by rw [hV]; exact VR.undef ρ, ⟨m, hm, Hm, listedQuiet hq⟩, .one hstep⟩
      | true =>
        have hme := heapEq hq
        rw [hme, ← hH] at Hm
        exact ⟨ρ, undef, w, Sub.refl ρ, by rw [hV]; exact VR.undef ρ, ⟨i + 1, hi, Hm, listedHeapy hq⟩, .one hstep⟩
    · have hw' := hwant _ hw
      cases hq : heapy i with
      | false =>
        obtain ⟨ρ', v, v', h', w', ⟨rfl, rfl⟩, hs, H', hv, hst⟩ := C.more i m o ho hq hm pos hw ρ w0 w a Hm hOT ops i rest b todo cs ho hw' hbk
        exact ⟨ρ', v', w', hs, hv, ⟨m, hm, H', listedQuiet hq⟩, hst⟩
      | true =>
        rw [heapEq hq] at Hm
        obtain ⟨ρ', v, v', h', w', ⟨rfl, rfl⟩, hs, H', hv, hst⟩ := hop ρ w0 w a Hm hOT ops i rest b todo cs ho hw' hbk
        exact ⟨ρ', v', w', hs, hv, ⟨i + 1, hi, H', listedHeapy hq⟩, hst⟩
  obtain ⟨ρ', v', w', hs, hv, hheap, hst⟩ := core
  have hil : i < listed.size := by rw [D.size]; exact hi
  have hdst := C.dst i o ho
  refine ⟨ρ', a.put o.dst v', w', hs, by cases o.dst <;> rfl, ⟨by simp [D.size], fun j oj hoj hl e he hb => ?_, ?_, fun j oj t hoj hl hd hlater => ?_, fun t v hnone hv0 => ?_, hheap⟩, hst⟩
  · rw [getD_set hil]
    split
    · rfl
    · rw [getD_set hil] at hl
      by_cases hji : j = i
      · subst hji; rw [ho] at hoj; cases hoj; exact hdir e he hb
      · rw [if_neg hji] at hl; exact D.closed j oj hoj hl e he hb
  · rw [← D.tsize]; cases o.dst <;> simp [Act.put]
  · by_cases hji : j = i
    · subst hji
      rw [ho] at hoj; cases hoj
      have hlt : t < a.tmps.size := by rw [D.tsize]; exact hdst t hd
      rw [hd]
      simpa [Act.put, hlt] using hv
    · rw [getD_set hil, if_neg hji] at hl
      by_cases hdi : o.dst = some t
      · exfalso
        rcases Nat.lt_or_gt_of_ne hji with h | h
        · exact hlater i o h ho (by rw [getD_set hil, if_pos rfl]) hdi
        · rcases pairOkL_spec (R.pair i j o oj h ho hoj) with hb | ⟨h1, _, _⟩
          · rw [behind j oj hoj hb] at hl; cases hl
          · exact (h1 t hdi).2 hd
      · have hget : (a.put o.dst v').tmps.getD t undef = a.tmps.getD t undef := by
          cases he : (o.dst : Option Nat) with
          | none => rfl
          | some d =>
            have : d ≠ t := fun e => hdi (by rw [he, e])
            simp only [Act.put, Array.getD_eq_getD_getElem?]
            rw [Array.getElem?_setIfInBounds_ne this]
        rw [hget]
        refine (D.lastw j oj t hoj hl hd fun k ok hk hok hlk => ?_).mono hs
        exact hlater k ok hk hok (by rw [getD_set hil]; split <;> first | rfl | exact hlk)
  · have hdi : o.dst ≠ some t := hnone i o ho (by rw [getD_set hil, if_pos rfl])
    have hget : (a.put o.dst v').tmps.getD t undef = a.tmps.getD t undef := by
      cases he : (o.dst : Option Nat) with
      | none => rfl
      | some d =>
        have : d ≠ t := fun e => hdi (by rw [he, e])
        simp only [Act.put, Array.getD_eq_getD_getElem?]
        rw [Array.getElem?_setIfInBounds_ne this]
    rw [hget]
    exact (D.nowr t v (fun k ok hok hlk => hnone k ok hok (by rw [getD_set hil]; split <;> first | rfl | exact hlk)) hv0).mono hs

end Go.Am
