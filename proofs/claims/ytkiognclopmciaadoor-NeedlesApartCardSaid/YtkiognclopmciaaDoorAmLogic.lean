/-
  A logic over the abstract heap: contracts of calls, and of code, with known slots and known blocks; no tape, no draws.
-/
import Derived.Test.YtkiognclopmciaaDoorAmCalls
namespace Go.Am
open Go Go.RowKit

variable {P : Program}

/-! Known slots. -/

abbrev PT := List (Nat × Value)

def look? : PT → Nat → Option Value
  | [], _ => none
  | (d, v) :: r, i => bif Nat.beq i d then some v else look? r i

def upd (t : PT) (d : Option Tmp) (v : Value) : PT :=
  match d with
  | some d => (d, v) :: t
  | none => t

structure PR' (ρ : Ren) (n : Nat) (t : PT) (c : Array Value) : Prop where
  size : c.size = n
  known : ∀ (i : Nat) (v : Value), look? t i = some v → VR ρ v (c.getD i undef)

theorem PR'.mono {ρ ρ' : Ren} (hs : Sub ρ ρ') {n : Nat} {t : PT} {c : Array Value} (H : PR' ρ n t c) : PR' ρ' n t c := ⟨H.size, fun i v h => (H.known i v h).mono hs⟩

theorem PR'.put {ρ : Ren} {n : Nat} {t : PT} {a : Act} (H : PR' ρ n t a.tmps) {d : Option Nat} (hd : ∀ i, d = some i → i < n) {v v' : Value} (hv : VR ρ v v') : PR' ρ n (upd t d v) (a.put d v').tmps := by
  cases d with
  | none => exact H
  | some d =>
    have hlt := hd d rfl
    refine ⟨by simp [Act.put, H.size], fun i x hx => ?_⟩
    simp only [upd, look?] at hx
    simp only [Act.put]
    by_cases hi : i = d
    · subst hi
      simp at hx
      subst hx
      have : i < a.tmps.size := by rw [H.size]; exact hlt
      simpa [this] using hv
    · rw [beq_no hi] at hx
      simp only [cond_false] at hx
      have e : (a.tmps.setIfInBounds d v').getD i undef = a.tmps.getD i undef := by
        simp only [Array.getD_eq_getD_getElem?]
        rw [Array.getElem?_setIfInBounds_ne (by omega)]
      rw [e]; exact H.known i x hx

def pev (t : PT) : Operand → Value
  | .tmp i => (look? t i).getD undef
  | .const v => v
  | .global g => .pointer (some ⟨g, 0, none⟩)
  | .func f => .func (.func f) #[] #[]

/-- Are all temporaries that an operation looks at known? -/
def knows (t : PT) (o : Oper) : Bool := o.op.operands.toList.all fun | .tmp i => (look? t i).isSome | _ => true

theorem pev_sim {ρ : Ren} {w0 w : World} {h : AHeap} (H : HR P ρ w0 h w) {n : Nat} {t : PT} {a : Act} (HT : PR' ρ n t a.tmps) {o : Oper} (ho : okOper P o = true) (hk : knows t o = true) :
    ∀ x ∈ o.op.operands.toList, VR ρ (pev t x) (a.eval x) := by
  have hall : o.op.operands.toList.all (okOperand P) = true := by
    unfold okOper at ho
    split at ho
    · cases ho
    · cases ho
    · exact ho
  intro x hx
  have hok := List.all_eq_true.1 hall x hx
  have hkn := List.all_eq_true.1 hk x hx
  cases x with
  | tmp i =>
    simp only [Option.isSome_iff_exists] at hkn
    obtain ⟨v, hv⟩ := hkn
    have := HT.known i v hv
    simpa [pev, hv, Act.eval] using this
  | const v => exact plainV_sim hok
  | global g =>
    obtain ⟨p, hp, hb, hs⟩ := H.glob g (by simpa [okOperand, Nat.blt_eq] using hok)
    have := VR.ptr (ρ := ρ) 0 hp
    rw [hb, hs] at this
    simpa [Act.eval, pev] using this
  | func g => exact .func _ _ _ _ _ _ (.func g) rfl (fun i x y h => by simp at h) rfl (fun i x y h => by simp at h)

/-! Contracts. -/

def ACalls (P : Program) (f : FuncId) (args : List Value) (h : AHeap) (R : Value → AHeap → Prop) : Prop :=
  ∀ (ρ : Ren) (w0 w : World) (args' : Array Value), HR P ρ w0 h w → LR ρ args args'.toList →
    Calls P f args' w fun e w' => ∃ ρ' v v' h', R v h' ∧ e = .returned v' ∧ Sub ρ ρ' ∧ HR P ρ' w0 h' w' ∧ VR ρ' v v'

theorem ACalls.mono {f : FuncId} {args : List Value} {h : AHeap} {R R' : Value → AHeap → Prop} (H : ACalls P f args h R) (hr : ∀ v h', R v h' → R' v h') : ACalls P f args h R' :=
  fun ρ w0 w args' hh hl => (H ρ w0 w args' hh hl).mono fun _ _ ⟨ρ', v, v', h', r, rest⟩ => ⟨ρ', v, v', h', hr v h' r, rest⟩

/-! Code. -/

structure AS where
  t : PT
  h : AHeap
  d : List Nat

inductive AEx where
  | normal
  | exit (id : Nat)
  | goto (l : Nat)
  | ret

def Agree (n0 : Nat) (ρ ρ' : Ren) : Prop := ∀ (b : Nat) (p : Pl), b < n0 → ρ[b]? = some p → ρ'[b]? = some p

theorem Agree.refl (n0 : Nat) (ρ : Ren) : Agree n0 ρ ρ := fun _ _ _ h => h
theorem Agree.trans {n0 : Nat} {a b c : Ren} (h : Agree n0 a b) (k : Agree n0 b c) : Agree n0 a c := fun i p hi hp => k i p hi (h i p hi hp)
theorem Sub.agree {ρ ρ' : Ren} (h : Sub ρ ρ') (n0 : Nat) : Agree n0 ρ ρ' := fun b p _ hp => h b p hp

def ArrA (P : Program) (m : Machine) (b : Frame) (k : List Item) (cs : List Frame) : AEx → Act → World → Prop
  | .normal, a, w => Steps P m (lone (b.atR a k) cs w)
  | .exit id, a, w => ∃ k1, exitTo id k1 = exitTo id k ∧ Steps P m (lone (b.atR a (.code (.exit id) :: k1)) cs w)
  | .goto l, a, w => ∃ k1, gotoIn l k1 = gotoIn l k ∧ Steps P m (lone (b.atR a (.code (.goto l) :: k1)) cs w)
  | .ret, a, w => ∃ k1, Steps P m (lone (b.atR a (.code .ret :: k1)) cs w)

theorem ArrA.of_steps {m m1 : Machine} {b : Frame} {k : List Item} {cs : List Frame} {e : AEx} {a : Act} {w : World} (h : Steps P m m1) (h' : ArrA P m1 b k cs e a w) : ArrA P m b k cs e a w := by
  cases e with
  | normal => exact h.trans h'
  | exit id => obtain ⟨k1, h1, h2⟩ := h'; exact ⟨k1, h1, h.trans h2⟩
  | goto l => obtain ⟨k1, h1, h2⟩ := h'; exact ⟨k1, h1, h.trans h2⟩
  | ret => obtain ⟨k1, h2⟩ := h'; exact ⟨k1, h.trans h2⟩

/-- Past an item that catches nothing. -/
theorem ArrA.pass {m : Machine} {b : Frame} {x : Item} {k : List Item} {cs : List Frame} {e : AEx} {a : Act} {w : World} (hx : x.plain = true) (he : e ≠ .normal) (h : ArrA P m b (x :: k) cs e a w) : ArrA P m b k cs e a w := by
  cases e with
  | normal => exact absurd rfl he
  | exit id => obtain ⟨k1, h1, h2⟩ := h; exact ⟨k1, by rw [h1]; cases x <;> simp_all [exitTo, Item.plain], h2⟩
  | goto l => obtain ⟨k1, h1, h2⟩ := h; exact ⟨k1, by rw [h1]; cases x <;> simp_all [gotoIn, Item.plain], h2⟩
  | ret => exact h

/-- The state and the machine. -/
structure SR (P : Program) (ρ : Ren) (w0 : World) (n : Nat) (s : AS) (a : Act) (w : World) : Prop where
  t : PR' ρ n s.t a.tmps
  h : HR P ρ w0 s.h w
  d : DR ρ s.d a.defers

def AW (P : Program) (n0 n : Nat) (c : Code) (Q : AEx → AS → Prop) (s : AS) : Prop :=
  ∀ (ρ : Ren) (w0 w : World) (b : Frame) (a : Act) (k : List Item) (cs : List Frame), SR P ρ w0 n s a w → b.kind = .normal →
    ∃ e s' ρ' a' w', Q e s' ∧ Agree n0 ρ ρ' ∧ SR P ρ' w0 n s' a' w' ∧ ArrA P (lone (b.atR a (.code c :: k)) cs w) b k cs e a' w'

variable {n0 n : Nat} {Q : AEx → AS → Prop} {s : AS}

theorem AW.mono {c : Code} {Q' : AEx → AS → Prop} (H : AW P n0 n c Q s) (hq : ∀ e s, Q e s → Q' e s) : AW P n0 n c Q' s :=
  fun ρ w0 w b a k cs hs hb => let ⟨e, s', ρ', a', w', q, rest⟩ := H ρ w0 w b a k cs hs hb; ⟨e, s', ρ', a', w', hq e s' q, rest⟩

theorem AW.skip (h : Q .normal s) : AW P n0 n .skip Q s := fun ρ w0 w b a k cs hs _ => ⟨.normal, s, ρ, a, w, h, .refl _ _, hs, .one stepR_skip⟩
theorem AW.label {l : Nat} (h : Q .normal s) : AW P n0 n (.label l) Q s := fun ρ w0 w b a k cs hs _ => ⟨.normal, s, ρ, a, w, h, .refl _ _, hs, .one stepR_label⟩
theorem AW.exit {id : Nat} (h : Q (.exit id) s) : AW P n0 n (.exit id) Q s := fun ρ w0 w b a k cs hs _ => ⟨.exit id, s, ρ, a, w, h, .refl _ _, hs, k, rfl, .refl _ _⟩
theorem AW.ret (h : Q .ret s) : AW P n0 n .ret Q s := fun ρ w0 w b a k cs hs _ => ⟨.ret, s, ρ, a, w, h, .refl _ _, hs, k, .refl _ _⟩

def AEx.then (K : AS → Prop) (Q : AEx → AS → Prop) : AEx → AS → Prop
  | .normal, s => K s
  | e, s => Q e s

theorem AW.seq {c d : Code} (H : AW P n0 n c (AEx.then (AW P n0 n d Q) Q) s) : AW P n0 n (.seq c d) Q s := by
  intro ρ w0 w b a k cs hs hb
  obtain ⟨e, s1, ρ1, a1, w1, q1, g1, r1, h1⟩ := H ρ w0 w b a (.code d :: k) cs hs hb
  cases e with
  | normal =>
    obtain ⟨e, s2, ρ2, a2, w2, q2, g2, r2, h2⟩ := q1 ρ1 w0 w1 b a1 k cs r1 hb
    exact ⟨e, s2, ρ2, a2, w2, q2, g1.trans g2, r2, .of_steps (.head stepR_seq h1) h2⟩
  | exit id => exact ⟨_, s1, ρ1, a1, w1, q1, g1, r1, .of_steps (.one stepR_seq) (.pass (x := .code d) rfl (by simp) h1)⟩
  | goto id => exact ⟨_, s1, ρ1, a1, w1, q1, g1, r1, .of_steps (.one stepR_seq) (.pass (x := .code d) rfl (by simp) h1)⟩
  | ret => exact ⟨_, s1, ρ1, a1, w1, q1, g1, r1, .of_steps (.one stepR_seq) (.pass (x := .code d) rfl (by simp) h1)⟩

theorem AW.cond {i : Nat} {x y : Code} {t : Bool} (hc : look? s.t i = some (.bool t)) (H : AW P n0 n (bif t then x else y) Q s) : AW P n0 n (.cond (.tmp i) x y) Q s := by
  intro ρ w0 w b a k cs hs hb
  obtain ⟨e, s1, ρ1, a1, w1, q1, g1, r1, h1⟩ := H ρ w0 w b a k cs hs hb
  have hv := hs.t.known i _ hc
  have he : a.eval (.tmp i) = .bool t := by
    generalize hy : a.tmps.getD i undef = y at hv
    cases hv
    simpa [Act.eval] using hy
  have hst := stepR_cond (P := P) (b := b) (k := k) (cs := cs) (w := w) (x := x) (y := y) he
  refine ⟨e, s1, ρ1, a1, w1, q1, g1, r1, .of_steps (.one hst) ?_⟩
  cases t <;> exact h1

def AEx.inBlock (id : Nat) (Q : AEx → AS → Prop) : AEx → AS → Prop
  | .exit id', s => if id' = id then Q .normal s else Q (.exit id') s
  | e, s => Q e s

theorem AW.block {id : Nat} {c : Code} (H : AW P n0 n c (AEx.inBlock id Q) s) : AW P n0 n (.block id c) Q s := by
  intro ρ w0 w b a k cs hs hb
  obtain ⟨e, s1, ρ1, a1, w1, q1, g1, r1, h1⟩ := H ρ w0 w b a (.inBlock id :: k) cs hs hb
  cases e with
  | normal => exact ⟨.normal, s1, ρ1, a1, w1, q1, g1, r1, .head stepR_block (h1.trans (.one stepR_inBlock))⟩
  | exit id' =>
    obtain ⟨k1, hk1, hst⟩ := h1
    by_cases hid : id' = id
    · subst hid
      simp only [AEx.inBlock, if_true] at q1
      refine ⟨.normal, s1, ρ1, a1, w1, q1, g1, r1, .head stepR_block (hst.trans (.one (stepR_exit ?_)))⟩
      rw [hk1]; simp [exitTo]
    · simp only [AEx.inBlock, hid, if_false] at q1
      refine ⟨.exit id', s1, ρ1, a1, w1, q1, g1, r1, k1, ?_, .head stepR_block hst⟩
      rw [hk1]
      have : (id == id') = false := by simp; exact fun h => hid h.symm
      simp [exitTo, this]
  | goto l =>
    obtain ⟨k1, hk1, hst⟩ := h1
    exact ⟨.goto l, s1, ρ1, a1, w1, q1, g1, r1, k1, by rw [hk1]; rfl, .head stepR_block hst⟩
  | ret =>
    obtain ⟨k1, hst⟩ := h1
    exact ⟨.ret, s1, ρ1, a1, w1, q1, g1, r1, k1, .head stepR_block hst⟩

/-- A loop, by what holds at each round's head, and a measure. -/
theorem AW.loop {c : Code} (I : Nat → AS → Prop) (m : Nat) (h0 : I m s) (round : ∀ m s, I m s → AW P n0 n c (AEx.then (fun s' => ∃ m', m' < m ∧ I m' s') Q) s) : AW P n0 n (.loop c) Q s := by
  intro ρ w0 w b a k cs hs hb
  have key : ∀ m s ρ a w, I m s → SR P ρ w0 n s a w → ∃ e s' ρ' a' w', Q e s' ∧ Agree n0 ρ ρ' ∧ SR P ρ' w0 n s' a' w' ∧ ArrA P (lone (b.atR a (.code c :: .inLoop c :: k)) cs w) b k cs e a' w' := by
    intro m
    induction m using Nat.strongRecOn with
    | _ m ih =>
      intro s ρ a w hI hs
      obtain ⟨e, s1, ρ1, a1, w1, q1, g1, r1, h1⟩ := round m s hI ρ w0 w b a (.inLoop c :: k) cs hs hb
      cases e with
      | normal =>
        obtain ⟨m', hm, hI'⟩ := q1
        obtain ⟨e, s2, ρ2, a2, w2, q2, g2, r2, h2⟩ := ih m' hm s1 ρ1 a1 w1 hI' r1
        exact ⟨e, s2, ρ2, a2, w2, q2, g1.trans g2, r2, .of_steps (Steps.trans h1 (.one stepR_inLoop)) h2⟩
      | exit id => exact ⟨_, s1, ρ1, a1, w1, q1, g1, r1, .pass (x := .inLoop c) rfl (by simp) h1⟩
      | goto l => exact ⟨_, s1, ρ1, a1, w1, q1, g1, r1, .pass (x := .inLoop c) rfl (by simp) h1⟩
      | ret => exact ⟨_, s1, ρ1, a1, w1, q1, g1, r1, .pass (x := .inLoop c) rfl (by simp) h1⟩
  obtain ⟨e, s1, ρ1, a1, w1, q1, g1, r1, h1⟩ := key m s ρ a w h0 hs
  exact ⟨e, s1, ρ1, a1, w1, q1, g1, r1, .of_steps (.one stepR_loop) h1⟩

/-! What is known may be less. -/

def Ent (P : Program) (n0 n : Nat) (s s' : AS) : Prop :=
  ∀ (ρ : Ren) (w0 w : World) (a : Act), SR P ρ w0 n s a w → ∃ ρ', Agree n0 ρ ρ' ∧ SR P ρ' w0 n s' a w

theorem AW.ent {c : Code} {s' : AS} (he : Ent P n0 n s s') (H : AW P n0 n c Q s') : AW P n0 n c Q s := by
  intro ρ w0 w b a k cs hs hb
  obtain ⟨ρ1, g1, r1⟩ := he ρ w0 w a hs
  obtain ⟨e, s2, ρ2, a2, w2, q2, g2, r2, h2⟩ := H ρ1 w0 w b a k cs r1 hb
  exact ⟨e, s2, ρ2, a2, w2, q2, g1.trans g2, r2, h2⟩

theorem AW.entPost {c : Code} (H : AW P n0 n c (fun e s => ∃ s', Ent P n0 n s s' ∧ Q e s') s) : AW P n0 n c Q s := by
  intro ρ w0 w b a k cs hs hb
  obtain ⟨e, s1, ρ1, a1, w1, ⟨s2, he, q⟩, g1, r1, h1⟩ := H ρ w0 w b a k cs hs hb
  obtain ⟨ρ2, g2, r2⟩ := he ρ1 w0 w1 a1 r1
  exact ⟨e, s2, ρ2, a1, w1, q, g1.trans g2, r2, h1⟩

/-- Slots are forgotten. -/
theorem Ent.slots {t t' : PT} {h : AHeap} {d : List Nat} (ht : ∀ i v, look? t' i = some v → look? t i = some v) : Ent P n0 n ⟨t, h, d⟩ ⟨t', h, d⟩ :=
  fun ρ _ _ _ hs => ⟨ρ, .refl _ _, ⟨⟨hs.t.size, fun i v hv => hs.t.known i v (ht i v hv)⟩, hs.h, hs.d⟩⟩

end Go.Am
