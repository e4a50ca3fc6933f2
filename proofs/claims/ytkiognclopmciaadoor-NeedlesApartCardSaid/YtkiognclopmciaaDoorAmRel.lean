/-
  The abstract machine: how its heap and its values stand to the model's.
-/
import Derived.Test.YtkiognclopmciaaDoorAmDefs
namespace Go.Am
open Go Go.RowKit

/-! The trees. -/

theorem Tr.get_nil {α : Type} (d : α) (n : Nat) : (Tr.nil : Tr α).get d n = d := rfl

theorem beq_no {a b : Nat} (h : ¬ a = b) : Nat.beq a b = false := by
  cases e : Nat.beq a b with
  | false => rfl
  | true => exact absurd (Nat.eq_of_beq_eq_true e) h

theorem odd_or (n : Nat) (h : ¬ n = 0) : n = n / 2 * 2 + (n % 2) ∧ (n % 2 = 1 ∨ (n % 2 = 0 ∧ n / 2 ≠ 0)) := by omega

theorem Tr.get_set {α : Type} (d : α) : ∀ (f : Nat) (t : Tr α) (n : Nat) (x : α) (m : Nat), n + 1 < 2 ^ f →
    (t.set d f n x).get d m = if m = n then x else t.get d m := by
  intro f
  induction f with
  | zero => intro t n x m h; simp at h
  | succ f ih =>
    intro t n x m h
    have hp : 2 ^ (f + 1) = 2 * 2 ^ f := by rw [Nat.pow_succ]; omega
    rw [hp] at h
    have key : ∀ (l r : Tr α) (v : α), ((bif Nat.beq n 0 then Tr.node l x r else bif Nat.beq (n % 2) 1 then Tr.node (Tr.set d f l (n / 2) x) v r else Tr.node l v (Tr.set d f r (n / 2 - 1) x)) : Tr α).get d m = if m = n then x else (Tr.node l v r).get d m := by
      intro l r v
      by_cases h0 : n = 0
      · subst h0
        simp only [Nat.beq_refl, cond_true, Tr.get]
        by_cases hm : m = 0
        · subst hm; simp
        · have : Nat.beq m 0 = false := beq_no hm
          simp [this, hm]
      · have e0 : Nat.beq n 0 = false := beq_no h0
        simp only [e0, cond_false]
        by_cases h1 : n % 2 = 1
        · have e1 : Nat.beq (n % 2) 1 = true := by rw [h1]; rfl
          simp only [e1, cond_true, Tr.get]
          by_cases hm : m = 0
          · subst hm
            have : ¬ (0 = n) := fun e => h0 e.symm
            simp [this]
          · have em : Nat.beq m 0 = false := beq_no hm
            simp only [em, cond_false]
            by_cases hm1 : m % 2 = 1
            · have em1 : Nat.beq (m % 2) 1 = true := by rw [hm1]; rfl
              simp only [em1, cond_true]
              rw [ih l (n / 2) x (m / 2) (by omega)]
              by_cases hmn : m = n
              · subst hmn; simp
              · have : ¬ m / 2 = n / 2 := by omega
                simp [this, hmn]
            · have em1 : Nat.beq (m % 2) 1 = false := beq_no hm1
              have : ¬ m = n := fun e => hm1 (e ▸ h1)
              simp [em1, this]
        · have e1 : Nat.beq (n % 2) 1 = false := beq_no h1
          simp only [e1, cond_false, Tr.get]
          by_cases hm : m = 0
          · subst hm
            have : ¬ (0 = n) := fun e => h0 e.symm
            simp [this]
          · have em : Nat.beq m 0 = false := beq_no hm
            simp only [em, cond_false]
            by_cases hm1 : m % 2 = 1
            · have em1 : Nat.beq (m % 2) 1 = true := by rw [hm1]; rfl
              have : ¬ m = n := fun e => h1 (e ▸ hm1)
              simp [em1, this]
            · have em1 : Nat.beq (m % 2) 1 = false := beq_no hm1
              simp only [em1, cond_false]
              rw [ih r (n / 2 - 1) x (m / 2 - 1) (by omega)]
              by_cases hmn : m = n
              · subst hmn; simp
              · have : ¬ m / 2 - 1 = n / 2 - 1 := by omega
                simp [this, hmn]
    cases t with
    | nil =>
      have := key .nil .nil d
      simp only [Tr.set]
      rw [this]
      simp [Tr.get]
    | node l v r => simp only [Tr.set]; exact key l r v

theorem fuel_ok (n : Nat) : n + 1 < 2 ^ (n + 1) := by
  induction n with
  | zero => decide
  | succ n ih => rw [Nat.pow_succ]; omega

theorem Tmps.get_set (t : Tmps) (n : Nat) (x : Value) (m : Nat) : (t.set n x).get m = if m = n then x else t.get m := by
  unfold Tmps.set Tmps.get
  exact Tr.get_set undef (n + 1) t.tr n x m (fuel_ok n)

@[simp] theorem Tmps.size_set (t : Tmps) (n : Nat) (x : Value) : (t.set n x).size = t.size := rfl

theorem AHeap.get_set (h : AHeap) (b : Nat) (o : AObj) (c : Nat) : (h.set b o).get c = if c = b then o else h.get c := by
  unfold AHeap.set AHeap.get
  exact Tr.get_set .dead (b + 1) h.tr b o c (fuel_ok b)

theorem AHeap.get_push (h : AHeap) (o : AObj) (c : Nat) : (h.push o).get c = if c = h.n then o else h.get c := by
  unfold AHeap.push AHeap.get
  exact Tr.get_set .dead (h.n + 1) h.tr h.n o c (fuel_ok h.n)

@[simp] theorem AHeap.n_set (h : AHeap) (b : Nat) (o : AObj) : (h.set b o).n = h.n := rfl
@[simp] theorem AHeap.n_push (h : AHeap) (o : AObj) : (h.push o).n = h.n + 1 := rfl

/-! Where the abstract blocks lie. -/

structure Pl where
  b : Nat
  s : Nat
  e : Nat
  z : Nat

abbrev Ren := List Pl

def Sub (ρ ρ' : Ren) : Prop := ∀ (b : Nat) (p : Pl), ρ[b]? = some p → ρ'[b]? = some p

theorem Sub.refl (ρ : Ren) : Sub ρ ρ := fun _ _ h => h
theorem Sub.trans {a b c : Ren} (h : Sub a b) (k : Sub b c) : Sub a c := fun i p hp => k i p (h i p hp)
theorem Sub.append (ρ l : Ren) : Sub ρ (ρ ++ l) := fun b p h => by
  rw [List.getElem?_append_left]
  · exact h
  · exact (List.getElem?_eq_some_iff.1 h).1

inductive FnR (ρ : Ren) : Fn → Fn → Prop where
  | func (f : FuncId) : FnR ρ (.func f) (.func f)
  | yield {l : Nat} {p : Pl} : ρ[l]? = some p → FnR ρ (.yield l) (.yield p.b)

inductive VR (ρ : Ren) : Value → Value → Prop where
  | bool (b : Bool) : VR ρ (.bool b) (.bool b)
  | int (k : IntKind) (n : Int) : VR ρ (.int k n) (.int k n)
  | string (s : ByteArray) : VR ρ (.string s) (.string s)
  | nilFunc : VR ρ .nilFunc .nilFunc
  | nilIface : VR ρ .nilIface .nilIface
  | pnil : VR ρ (.pointer none) (.pointer none)
  | ptr {b : Nat} {p : Pl} (i : Nat) : ρ[b]? = some p → VR ρ (.pointer (some ⟨b, i, none⟩)) (.pointer (some ⟨p.b, p.s + i, none⟩))
  | snil (n c : Nat) : c < big → VR ρ (.slice none n c) (.slice none n c)
  | slice {b : Nat} {p : Pl} (i n c : Nat) : ρ[b]? = some p → c < big → VR ρ (.slice (some ⟨b, i, none⟩) n c) (.slice (some ⟨p.b, p.s + i, none⟩) n c)
  | open {b : Nat} {p : Pl} (i n c : Nat) : ρ[b]? = some p → n ≤ c → p.s + i + c * p.e ≤ p.z → VR ρ (.slice (some ⟨b, i, none⟩) n big) (.slice (some ⟨p.b, p.s + i, none⟩) n c)
  | agg (xs ys : Array Value) : xs.size = ys.size → (∀ (i : Nat) (x y : Value), xs[i]? = some x → ys[i]? = some y → VR ρ x y) → VR ρ (.agg xs) (.agg ys)
  | tuple (xs ys : Array Value) : xs.size = ys.size → (∀ (i : Nat) (x y : Value), xs[i]? = some x → ys[i]? = some y → VR ρ x y) → VR ρ (.tuple xs) (.tuple ys)
  | func (f g : Fn) (xs ys us vs : Array Value) : FnR ρ f g → xs.size = ys.size → (∀ (i : Nat) (x y : Value), xs[i]? = some x → ys[i]? = some y → VR ρ x y) →
      us.size = vs.size → (∀ (i : Nat) (x y : Value), us[i]? = some x → vs[i]? = some y → VR ρ x y) → VR ρ (.func f xs us) (.func g ys vs)

theorem FnR.mono {ρ ρ' : Ren} (hs : Sub ρ ρ') {f g : Fn} (h : FnR ρ f g) : FnR ρ' f g := by
  cases h with
  | func f => exact .func f
  | yield h => exact .yield (hs _ _ h)

theorem VR.mono {ρ ρ' : Ren} (hs : Sub ρ ρ') {x y : Value} (h : VR ρ x y) : VR ρ' x y := by
  induction h with
  | bool b => exact .bool b
  | int k n => exact .int k n
  | string s => exact .string s
  | nilFunc => exact .nilFunc
  | nilIface => exact .nilIface
  | pnil => exact .pnil
  | ptr i h => exact .ptr i (hs _ _ h)
  | snil n c h => exact .snil n c h
  | slice i n c h hc => exact .slice i n c (hs _ _ h) hc
  | «open» i n c h hn hz => exact .open i n c (hs _ _ h) hn hz
  | agg xs ys h _ ih => exact .agg xs ys h ih
  | tuple xs ys h _ ih => exact .tuple xs ys h ih
  | func f g xs ys us vs hf h1 _ h2 _ ih1 ih2 => exact .func f g xs ys us vs (hf.mono hs) h1 ih1 h2 ih2

theorem VR.undef (ρ : Ren) : VR ρ undef undef := .tuple #[] #[] rfl (fun i x y h => by simp at h)

/-- Lists of related values. -/
def LR (ρ : Ren) (xs ys : List Value) : Prop := xs.length = ys.length ∧ ∀ (i : Nat) (x y : Value), xs[i]? = some x → ys[i]? = some y → VR ρ x y

theorem LR.mono {ρ ρ' : Ren} (hs : Sub ρ ρ') {x y : List Value} (h : LR ρ x y) : LR ρ' x y := ⟨h.1, fun i a b ha hb => (h.2 i a b ha hb).mono hs⟩

theorem LR.nil (ρ : Ren) : LR ρ [] [] := ⟨rfl, fun i x y h => by simp at h⟩

theorem LR.cons {ρ : Ren} {x y : Value} {xs ys : List Value} (h : VR ρ x y) (hs : LR ρ xs ys) : LR ρ (x :: xs) (y :: ys) := by
  refine ⟨by simp [hs.1], fun i a b ha hb => ?_⟩
  cases i with
  | zero => simp at ha hb; subst ha; subst hb; exact h
  | succ i => simp at ha hb; exact hs.2 i a b ha hb

theorem LR.uncons {ρ : Ren} {x : Value} {xs l : List Value} (h : LR ρ (x :: xs) l) : ∃ y ys, l = y :: ys ∧ VR ρ x y ∧ LR ρ xs ys := by
  cases l with
  | nil => have := h.1; simp at this
  | cons y ys =>
    refine ⟨y, ys, rfl, h.2 0 x y rfl rfl, ?_, fun i a b ha hb => h.2 (i + 1) a b (by simpa using ha) (by simpa using hb)⟩
    have := h.1; simp at this; exact this

theorem LR.nil_left {ρ : Ren} {l : List Value} (h : LR ρ [] l) : l = [] := by
  have := h.1; simp at this; exact List.eq_nil_of_length_eq_zero this.symm

theorem LR.append {ρ : Ren} {a b c d : List Value} (h : LR ρ a b) (k : LR ρ c d) : LR ρ (a ++ c) (b ++ d) := by
  refine ⟨by simp [h.1, k.1], fun i x y hx hy => ?_⟩
  by_cases hi : i < a.length
  · rw [List.getElem?_append_left hi] at hx
    rw [List.getElem?_append_left (by rw [← h.1]; exact hi)] at hy
    exact h.2 i x y hx hy
  · rw [List.getElem?_append_right (by omega)] at hx
    rw [List.getElem?_append_right (by rw [← h.1]; omega)] at hy
    rw [← h.1] at hy
    exact k.2 _ x y hx hy

theorem LR.get {ρ : Ren} {xs ys : List Value} (h : LR ρ xs ys) {i : Nat} {x : Value} (hx : xs[i]? = some x) : ∃ y, ys[i]? = some y ∧ VR ρ x y := by
  have hi : i < ys.length := by rw [← h.1]; exact (List.getElem?_eq_some_iff.1 hx).1
  exact ⟨ys[i], List.getElem?_eq_getElem hi, h.2 i x _ hx (List.getElem?_eq_getElem hi)⟩

theorem LR.of_arrays {ρ : Ren} {xs ys : Array Value} (h : xs.size = ys.size) (k : ∀ (i : Nat) (x y : Value), xs[i]? = some x → ys[i]? = some y → VR ρ x y) : LR ρ xs.toList ys.toList :=
  ⟨by simpa using h, fun i x y hx hy => k i x y (by simpa using hx) (by simpa using hy)⟩

theorem VR.agg_of {ρ : Ren} {xs ys : List Value} (h : LR ρ xs ys) : VR ρ (.agg xs.toArray) (.agg ys.toArray) :=
  .agg _ _ (by simpa using h.1) (fun i x y hx hy => h.2 i x y (by simpa using hx) (by simpa using hy))

theorem VR.agg_arr {ρ : Ren} {xs ys : Array Value} (h : LR ρ xs.toList ys.toList) : VR ρ (.agg xs) (.agg ys) :=
  .agg _ _ (by simpa using h.1) (fun i x y hx hy => h.2 i x y (by simpa using hx) (by simpa using hy))

theorem VR.tuple_arr {ρ : Ren} {xs ys : Array Value} (h : LR ρ xs.toList ys.toList) : VR ρ (.tuple xs) (.tuple ys) :=
  .tuple _ _ (by simpa using h.1) (fun i x y hx hy => h.2 i x y (by simpa using hx) (by simpa using hy))

theorem VR.tuple_of {ρ : Ren} {xs ys : List Value} (h : LR ρ xs ys) : VR ρ (.tuple xs.toArray) (.tuple ys.toArray) :=
  .tuple _ _ (by simpa using h.1) (fun i x y hx hy => h.2 i x y (by simpa using hx) (by simpa using hy))

theorem VR.agg_inv {ρ : Ren} {xs : Array Value} {y : Value} (h : VR ρ (.agg xs) y) : ∃ ys, y = .agg ys ∧ LR ρ xs.toList ys.toList := by
  cases h with
  | agg xs ys h k => exact ⟨ys, rfl, .of_arrays h k⟩

theorem VR.tuple_inv {ρ : Ren} {xs : Array Value} {y : Value} (h : VR ρ (.tuple xs) y) : ∃ ys, y = .tuple ys ∧ LR ρ xs.toList ys.toList := by
  cases h with
  | tuple xs ys h k => exact ⟨ys, rfl, .of_arrays h k⟩

/-- The cells of related values. -/
theorem VR.cells {ρ : Ren} {x y : Value} (h : VR ρ x y) : LR ρ x.cells.toList y.cells.toList := by
  cases h with
  | agg xs ys h k => exact .of_arrays h k
  | bool b => exact LR.cons (.bool b) (LR.nil ρ)
  | int k n => exact LR.cons (.int k n) (LR.nil ρ)
  | string s => exact LR.cons (.string s) (LR.nil ρ)
  | nilFunc => exact LR.cons .nilFunc (LR.nil ρ)
  | nilIface => exact LR.cons .nilIface (LR.nil ρ)
  | pnil => exact LR.cons .pnil (LR.nil ρ)
  | ptr i h => exact LR.cons (.ptr i h) (LR.nil ρ)
  | snil n c h => exact LR.cons (.snil n c h) (LR.nil ρ)
  | slice i n c h k => exact LR.cons (.slice i n c h k) (LR.nil ρ)
  | «open» i n c h k l => exact LR.cons (.open i n c h k l) (LR.nil ρ)
  | tuple xs ys h k => exact LR.cons (.tuple xs ys h k) (LR.nil ρ)
  | func f g xs ys us vs a b c d e => exact LR.cons (.func f g xs ys us vs a b c d e) (LR.nil ρ)

/-! The heap. -/

def Row (ρ : Ren) (p : Pl) (c : List Value) (w : World) : Prop :=
  ∃ (cc : Array Value) (el : TypeId) (fz : Nat × Nat), w.heap[p.b]? = some (.cells cc el fz) ∧ cc.size = p.z ∧ p.s + c.length ≤ p.z ∧
    (∀ i, i < p.z → (decide (fz.1 ≤ i) && decide (i < fz.2)) = false) ∧ ∀ (i : Nat) (x : Value), c[i]? = some x → ∃ y, cc[p.s + i]? = some y ∧ VR ρ x y

/-- The temporaries. -/
def TR (ρ : Ren) (t : Tmps) (c : Array Value) : Prop := t.size = c.size ∧ ∀ i, VR ρ (t.get i) (c.getD i undef)

structure LoopR (ρ : Ren) (l : ALoop) (L : Loop) : Prop where
  state : L.state = l.state
  pending : L.pending = l.pending
  fn : L.fn = l.fn
  tmps : TR ρ l.tmps L.tmps
  params : L.params.toList = l.params
  assign : L.assign = l.assign
  body : L.body = l.body
  defers : ∃ p : Pl, ρ[l.defers]? = some p ∧ L.defers = p.b

def OR (ρ : Ren) (base : Nat) (p : Pl) (o : AObj) (w : World) : Prop :=
  match o with
  | .cells c e => base ≤ p.b ∧ p.e = e ∧ Row ρ p c w
  | .ro c => p.b < base ∧ Row ρ p c w
  | .dead => True
  | .iter s pos => base ≤ p.b ∧ w.heap[p.b]? = some (.stringIter s pos)
  | .loop l => base ≤ p.b ∧ ∃ L, w.heap[p.b]? = some (.loop L) ∧ LoopR ρ l L
  | .deferred t => base ≤ p.b ∧ w.heap[p.b]? = some (.deferred (if t then none else some []))

def live : AObj → Bool
  | .dead | .ro _ => false
  | _ => true

structure HR (P : Program) (ρ : Ren) (w0 : World) (h : AHeap) (w : World) : Prop where
  len : ρ.length = h.n
  gone : ∀ b, h.n ≤ b → h.get b = .dead
  obj : ∀ (b : Nat) (p : Pl), ρ[b]? = some p → p.b < w.heap.size ∧ OR ρ w0.heap.size p (h.get b) w
  inj : ∀ (b c : Nat) (p q : Pl), b ≠ c → ρ[b]? = some p → ρ[c]? = some q → live (h.get b) = true → live (h.get c) = true → p.b ≠ q.b
  below : Below w0.heap.size w0 w
  glob : ∀ g, g < P.globals.size → ∃ p : Pl, ρ[g]? = some p ∧ p.b = g ∧ p.s = 0

theorem TR.mono {ρ ρ' : Ren} (hs : Sub ρ ρ') {t : Tmps} {c : Array Value} (h : TR ρ t c) : TR ρ' t c := ⟨h.1, fun i => (h.2 i).mono hs⟩

theorem LoopR.mono {ρ ρ' : Ren} (hs : Sub ρ ρ') {l : ALoop} {L : Loop} (h : LoopR ρ l L) : LoopR ρ' l L :=
  ⟨h.state, h.pending, h.fn, h.tmps.mono hs, h.params, h.assign, h.body, let ⟨p, hp, hd⟩ := h.defers; ⟨p, hs _ _ hp, hd⟩⟩

theorem Row.mono {ρ ρ' : Ren} (hs : Sub ρ ρ') {p : Pl} {c : List Value} {w : World} (h : Row ρ p c w) : Row ρ' p c w := by
  obtain ⟨cc, el, fz, h1, h2, h3, h4, h5⟩ := h
  exact ⟨cc, el, fz, h1, h2, h3, h4, fun i x hx => let ⟨y, hy, hv⟩ := h5 i x hx; ⟨y, hy, hv.mono hs⟩⟩

theorem OR.mono {ρ ρ' : Ren} (hs : Sub ρ ρ') {base : Nat} {p : Pl} {o : AObj} {w : World} (h : OR ρ base p o w) : OR ρ' base p o w := by
  cases o with
  | cells c e => exact ⟨h.1, h.2.1, h.2.2.mono hs⟩
  | ro c => exact ⟨h.1, h.2.mono hs⟩
  | dead => exact h
  | iter s pos => exact h
  | loop l => obtain ⟨h1, L, h2, h3⟩ := h; exact ⟨h1, L, h2, h3.mono hs⟩
  | deferred t => exact h

theorem Row.world {ρ : Ren} {p : Pl} {c : List Value} {w w' : World} (h : Row ρ p c w) (hb : w'.heap[p.b]? = w.heap[p.b]?) : Row ρ p c w' := by
  obtain ⟨cc, el, fz, h1, h2⟩ := h
  exact ⟨cc, el, fz, hb.trans h1, h2⟩

theorem OR.world {ρ : Ren} {base : Nat} {p : Pl} {o : AObj} {w w' : World} (h : OR ρ base p o w) (hb : w'.heap[p.b]? = w.heap[p.b]?) : OR ρ base p o w' := by
  cases o with
  | cells c e => exact ⟨h.1, h.2.1, h.2.2.world hb⟩
  | ro c => exact ⟨h.1, h.2.world hb⟩
  | dead => exact h
  | iter s pos => exact ⟨h.1, hb.trans h.2⟩
  | loop l => obtain ⟨h1, L, h2, h3⟩ := h; exact ⟨h1, L, hb.trans h2, h3⟩
  | deferred t => exact ⟨h.1, hb.trans h.2⟩

theorem OR.base_le {ρ : Ren} {base : Nat} {p : Pl} {o : AObj} {w : World} (h : OR ρ base p o w) (hl : live o = true) : base ≤ p.b := by
  cases o <;> first | exact h.1 | (simp [live] at hl)

variable {P : Program} {ρ : Ren} {w0 w w' : World} {h : AHeap}

theorem HR.lt (H : HR P ρ w0 h w) {b : Nat} {p : Pl} (hp : ρ[b]? = some p) : b < h.n := by
  rw [← H.len]; exact (List.getElem?_eq_some_iff.1 hp).1

/-- The world turns where no block of ours lies. -/
theorem HR.turn (H : HR P ρ w0 h w) (hb : Below w0.heap.size w0 w') (hs : w.heap.size ≤ w'.heap.size)
    (hk : ∀ (b : Nat) (p : Pl), ρ[b]? = some p → live (h.get b) = true → w'.heap[p.b]? = w.heap[p.b]?) : HR P ρ w0 h w' where
  len := H.len
  gone := H.gone
  obj := fun b p hp => by
    obtain ⟨h1, h2⟩ := H.obj b p hp
    refine ⟨by omega, ?_⟩
    cases ho : h.get b with
    | dead => exact trivial
    | ro c =>
      rw [ho] at h2
      exact h2.world ((hb.block p.b h2.1).trans (H.below.block p.b h2.1).symm)
    | cells c e => rw [← ho]; exact h2.world (hk b p hp (by rw [ho]; rfl))
    | iter s pos => rw [← ho]; exact h2.world (hk b p hp (by rw [ho]; rfl))
    | loop l => rw [← ho]; exact h2.world (hk b p hp (by rw [ho]; rfl))
    | deferred t => rw [← ho]; exact h2.world (hk b p hp (by rw [ho]; rfl))
  inj := H.inj
  below := hb
  glob := H.glob

theorem HR.drew (H : HR P ρ w0 h w) (n : Nat) : HR P ρ w0 h { w with drawn := n } :=
  H.turn ⟨H.below.os, H.below.tape, H.below.output, H.below.size, H.below.block⟩ (Nat.le_refl _) (fun _ _ _ _ => rfl)

/-- A block is forgotten. -/
theorem HR.kill (H : HR P ρ w0 h w) (b : Nat) (hb : b < h.n) : HR P ρ w0 (h.set b .dead) w where
  len := H.len
  gone := fun c hc => by
    have : c ≠ b := by simp at hc; omega
    rw [AHeap.get_set _ _ _ _, if_neg this]; exact H.gone c hc
  obj := fun c p hp => by
    rw [AHeap.get_set _ _ _ _]
    refine ⟨(H.obj c p hp).1, ?_⟩
    split
    · exact trivial
    · exact (H.obj c p hp).2
  inj := fun c d p q hcd hp hq hc hd => by
    rw [AHeap.get_set _ _ _ _] at hc hd
    split at hc
    · simp [live] at hc
    · split at hd
      · simp [live] at hd
      · exact H.inj c d p q hcd hp hq hc hd
  below := H.below
  glob := H.glob

/-- One more block. -/
theorem HR.put (H : HR P ρ w0 h w) (p : Pl) (o : AObj) (hpb : p.b < w.heap.size)
    (ho : OR (ρ ++ [p]) w0.heap.size p o w) (hin : ∀ (b : Nat) (q : Pl), ρ[b]? = some q → live (h.get b) = true → live o = true → q.b ≠ p.b) :
    HR P (ρ ++ [p]) w0 (h.push o) w where
  len := by simp [H.len]
  gone := fun c hc => by
    simp at hc
    have : c ≠ h.n := by omega
    rw [AHeap.get_push _ _ _, if_neg this]; exact H.gone c (by omega)
  obj := fun c q hq => by
    rw [AHeap.get_push _ _ _]
    by_cases hc : c = h.n
    · subst hc
      rw [List.getElem?_append_right (by rw [H.len]; omega), H.len] at hq
      simp at hq
      subst hq
      rw [if_pos rfl]
      exact ⟨hpb, ho⟩
    · rw [if_neg hc]
      have hlt : c < ρ.length := by
        have := (List.getElem?_eq_some_iff.1 hq).1
        simp at this
        rw [H.len] at this ⊢
        omega
      rw [List.getElem?_append_left hlt] at hq
      obtain ⟨h1, h2⟩ := H.obj c q hq
      exact ⟨h1, h2.mono (Sub.append ρ [p])⟩
  inj := fun c d q r hcd hq hr hc hd => by
    rw [AHeap.get_push _ _ _] at hc hd
    have old : ∀ (c : Nat) (q : Pl), (ρ ++ [p])[c]? = some q → c ≠ h.n → ρ[c]? = some q := fun c q hq hc => by
      have hlt : c < ρ.length := by
        have := (List.getElem?_eq_some_iff.1 hq).1
        simp at this
        rw [H.len] at this ⊢
        omega
      rwa [List.getElem?_append_left hlt] at hq
    have new : ∀ (q : Pl), (ρ ++ [p])[h.n]? = some q → q = p := fun q hq => by
      rw [List.getElem?_append_right (by rw [H.len]; omega), H.len] at hq
      simp at hq
      exact hq.symm
    by_cases hcn : c = h.n
    · subst hcn
      have hdn : d ≠ h.n := fun e => hcd e.symm
      rw [if_pos rfl] at hc
      rw [if_neg hdn] at hd
      rw [new q hq]
      exact fun e => hin d r (old d r hr hdn) hd hc e.symm
    · rw [if_neg hcn] at hc
      by_cases hdn : d = h.n
      · subst hdn
        rw [if_pos rfl] at hd
        rw [new r hr]
        exact hin c q (old c q hq hcn) hc hd
      · rw [if_neg hdn] at hd
        exact H.inj c d q r hcd (old c q hq hcn) (old d r hr hdn) hc hd
  below := H.below
  glob := fun g hg => let ⟨p', hp', h1, h2⟩ := H.glob g hg; ⟨p', Sub.append ρ [p] _ _ hp', h1, h2⟩

/-- A block turns into another one, in place. -/
theorem HR.change (H : HR P ρ w0 h w) {b : Nat} {p : Pl} (hp : ρ[b]? = some p) (hl : live (h.get b) = true) (o : AObj)
    (hb : Below w0.heap.size w0 w') (hs : w.heap.size ≤ w'.heap.size) (hk : ∀ k, k ≠ p.b → k < w.heap.size → w'.heap[k]? = w.heap[k]?)
    (ho : OR ρ w0.heap.size p o w') : HR P ρ w0 (h.set b o) w' where
  len := H.len
  gone := fun c hc => by
    have := H.lt hp
    have : c ≠ b := by simp at hc; omega
    rw [AHeap.get_set _ _ _ _, if_neg this]; exact H.gone c hc
  obj := fun c q hq => by
    rw [AHeap.get_set _ _ _ _]
    have hc1 := (H.obj c q hq).1
    refine ⟨by omega, ?_⟩
    by_cases hcb : c = b
    · subst hcb
      rw [if_pos rfl]
      rw [hp] at hq
      cases hq
      exact ho
    · rw [if_neg hcb]
      have h2 := (H.obj c q hq).2
      cases hoc : h.get c with
      | dead => exact trivial
      | ro cs =>
        rw [hoc] at h2
        exact h2.world ((hb.block q.b h2.1).trans (H.below.block q.b h2.1).symm)
      | cells cs e =>
        have hne := H.inj c b q p hcb hq hp (by rw [hoc]; rfl) hl
        rw [← hoc]; exact h2.world (hk q.b hne hc1)
      | iter s pos =>
        have hne := H.inj c b q p hcb hq hp (by rw [hoc]; rfl) hl
        rw [← hoc]; exact h2.world (hk q.b hne hc1)
      | loop l =>
        have hne := H.inj c b q p hcb hq hp (by rw [hoc]; rfl) hl
        rw [← hoc]; exact h2.world (hk q.b hne hc1)
      | deferred t =>
        have hne := H.inj c b q p hcb hq hp (by rw [hoc]; rfl) hl
        rw [← hoc]; exact h2.world (hk q.b hne hc1)
  inj := fun c d q r hcd hq hr hc hd => by
    rw [AHeap.get_set _ _ _ _] at hc hd
    have hc' : live (h.get c) = true := by
      by_cases e : c = b
      · subst e; exact hl
      · rwa [if_neg e] at hc
    have hd' : live (h.get d) = true := by
      by_cases e : d = b
      · subst e; exact hl
      · rwa [if_neg e] at hd
    exact H.inj c d q r hcd hq hr hc' hd'
  below := hb
  glob := H.glob

/-- A new block of the world, and of ours. -/
theorem HR.alloc (H : HR P ρ w0 h w) (O : Obj) (o : AObj) (p : Pl) (hpb : p.b = w.heap.size)
    (ho : OR (ρ ++ [p]) w0.heap.size p o { w with heap := w.heap.push O }) : HR P (ρ ++ [p]) w0 (h.push o) { w with heap := w.heap.push O } := by
  have h1 : HR P ρ w0 h { w with heap := w.heap.push O } := by
    refine H.turn ?_ (by simp) (fun b q hq _ => ?_)
    · exact H.below.alloc H.below.size O
    · have := (H.obj b q hq).1
      show (w.heap.push O)[q.b]? = _
      rw [Array.getElem?_push, if_neg (by omega)]
  refine h1.put p o (by simp [hpb]) ho (fun b q hq _ _ => ?_)
  have := (H.obj b q hq).1
  omega

end Go.Am
