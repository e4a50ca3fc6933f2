/-
  The data layer: data of known types, how they are read out of an abstract heap, and states that hold data instead of addresses.
-/
import Derived.Test.YtpchlfmlolkeeaaAmB
set_option linter.unusedSimpArgs false
set_option linter.unusedVariables false
namespace Go.Am
open Go Go.RowKit

/-- Types of data: a struct is pairs that end with a unit. -/
inductive Ty where
  | int (k : IntKind)
  | bool
  | str
  | unit
  | pair (a b : Ty)
  | sl (e : Ty)

def Ty.decEq : (a b : Ty) → Decidable (a = b)
  | .int k, .int k' => if h : k = k' then isTrue (by rw [h]) else isFalse (by intro e; cases e; exact h rfl)
  | .bool, .bool => isTrue rfl
  | .str, .str => isTrue rfl
  | .unit, .unit => isTrue rfl
  | .pair a b, .pair c d => match Ty.decEq a c, Ty.decEq b d with
    | isTrue h, isTrue k => isTrue (by rw [h, k])
    | isFalse h, _ => isFalse (by intro e; cases e; exact h rfl)
    | _, isFalse h => isFalse (by intro e; cases e; exact h rfl)
  | .sl a, .sl b => match Ty.decEq a b with
    | isTrue h => isTrue (by rw [h])
    | isFalse h => isFalse (by intro e; cases e; exact h rfl)
  | .int _, .bool | .int _, .str | .int _, .unit | .int _, .pair .. | .int _, .sl _ => isFalse (by intro e; cases e)
  | .bool, .int _ | .bool, .str | .bool, .unit | .bool, .pair .. | .bool, .sl _ => isFalse (by intro e; cases e)
  | .str, .int _ | .str, .bool | .str, .unit | .str, .pair .. | .str, .sl _ => isFalse (by intro e; cases e)
  | .unit, .int _ | .unit, .bool | .unit, .str | .unit, .pair .. | .unit, .sl _ => isFalse (by intro e; cases e)
  | .pair .., .int _ | .pair .., .bool | .pair .., .str | .pair .., .unit | .pair .., .sl _ => isFalse (by intro e; cases e)
  | .sl _, .int _ | .sl _, .bool | .sl _, .str | .sl _, .unit | .sl _, .pair .. => isFalse (by intro e; cases e)

instance : DecidableEq Ty := Ty.decEq

/-- A slice as data: its elements, and its capacity where that is known. -/
structure Sl (α : Type) where
  l : List α
  cap : Option Nat

def Ty.D : Ty → Type
  | .int _ => Int
  | .bool => Bool
  | .str => ByteArray
  | .unit => Unit
  | .pair a b => a.D × b.D
  | .sl e => Sl e.D

def Ty.zero : (t : Ty) → t.D
  | .int _ => (0 : Int)
  | .bool => false
  | .str => ByteArray.empty
  | .unit => ()
  | .pair a b => (a.zero, b.zero)
  | .sl _ => ⟨[], some 0⟩

def Ty.size : Ty → Nat
  | .unit => 0
  | .pair a b => a.size + b.size
  | _ => 1

def Ty.isAgg : Ty → Bool
  | .unit | .pair .. => true
  | _ => false

/-- Cells that are a list's elements, one behind the other. -/
def Cells {α : Type} (R : List Value → α → Prop) : List Value → List α → Prop
  | cs, [] => cs = []
  | cs, x :: l => ∃ c1 c2, cs = c1 ++ c2 ∧ R c1 x ∧ Cells R c2 l

/-- The capacity of a slice without a place: none, not known, or none at a place that is not known. -/
def NilC (c : Nat) (cap : Option Nat) : Prop := ((c = 0 ∨ c = big + 1) ∧ (cap = none ∨ cap = some 0)) ∨ (c = big ∧ cap = none)

/-- A slice in frozen memory. -/
def SlV {α : Type} (h : AHeap) (F : Nat → Prop) (sz : Nat) (R : List Value → α → Prop) (s : Sl α) (v : Value) : Prop :=
  (∃ c, v = .slice none 0 c ∧ s.l = [] ∧ NilC c s.cap) ∨
  ∃ b o c cs, v = .slice (some ⟨b, o, none⟩) s.l.length c ∧ b < h.n ∧ F b ∧ s.l.length ≤ c ∧ s.l.length < big ∧ (∀ k, s.cap = some k → c = k ∧ k < big) ∧ (¬ c < big → c = big ∧ eszOf h b = some sz) ∧ areadN h b o (s.l.length * sz) = some cs ∧ Cells R cs s.l

/-- Cells that read as data. -/
def RdC (h : AHeap) (F : Nat → Prop) : (t : Ty) → List Value → t.D → Prop
  | .int k, cs, (x : Int) => cs = [.int k x]
  | .bool, cs, (x : Bool) => cs = [.bool x]
  | .str, cs, (x : ByteArray) => cs = [.string x]
  | .unit, cs, _ => cs = []
  | .pair a b, cs, (x : a.D × b.D) => ∃ c1 c2, cs = c1 ++ c2 ∧ RdC h F a c1 x.1 ∧ RdC h F b c2 x.2
  | .sl e, cs, (s : Sl e.D) => ∃ v, cs = [v] ∧ SlV h F e.size (RdC h F e) s v

/-- Data as values of slots and cells. -/
inductive DV where
  | int (k : IntKind) (x : Int)
  | bool (b : Bool)
  | lit (b : Bool)
  | str (s : ByteArray)
  | sl (e : Ty) (s : Sl e.D)
  | agg (l : List DV)
  | tup (l : List DV)
  | osl (j : Nat) (e : Ty) (off len : Nat) (cap : Option Nat)
  | bptr (j off : Nat)
  | aptr (j : Nat) (e : Ty) (i off : Nat)
  | fptr (t : Ty) (x : t.D)
  | clo (f : Nat) (xs us : List DV)
  | yl (j : Nat)
  | nilF
  | nilP
  | nilI
  | nils
  | und
  | any

/-- The length and the element's cells of a block. -/
def blen (h : AHeap) (b : Nat) : Option Nat := (h.get b).row.map (·.length)

inductive RdV (h : AHeap) (F : Nat → Prop) (η : Nat → Nat → Prop) : DV → Value → Prop where
  | int (k : IntKind) (x : Int) : RdV h F η (.int k x) (.int k x)
  | bool (b : Bool) : RdV h F η (.bool b) (.bool b)
  | lit (b : Bool) : RdV h F η (.lit b) (.bool b)
  | str (s : ByteArray) : RdV h F η (.str s) (.string s)
  | sl {e : Ty} {s : Sl e.D} {v : Value} : SlV h F e.size (RdC h F e) s v → RdV h F η (.sl e s) v
  | agg {l : List DV} {xs : Array Value} : l.length = xs.size → (∀ (i : Nat) (d : DV) (x : Value), l[i]? = some d → xs[i]? = some x → RdV h F η d x) → RdV h F η (.agg l) (.agg xs)
  | tup {l : List DV} {xs : Array Value} : l.length = xs.size → (∀ (i : Nat) (d : DV) (x : Value), l[i]? = some d → xs[i]? = some x → RdV h F η d x) → RdV h F η (.tup l) (.tuple xs)
  | osl {j b : Nat} {e : Ty} {off len : Nat} {cap : Option Nat} (c n o : Nat) : η j b → blen h b = some n → len ≤ c → len < big → (∀ k, cap = some k → c = k ∧ k < big) → (c ≠ 0 → o = off * e.size) →
      (c < big → o + c * e.size ≤ n) → (¬ c < big → c = big ∧ eszOf h b = some e.size ∧ o + len * e.size ≤ n) → RdV h F η (.osl j e off len cap) (.slice (some ⟨b, o, none⟩) len c)
  | onil {j : Nat} {e : Ty} {off : Nat} {cap : Option Nat} {c : Nat} : NilC c cap → (c ≠ 0 → off ≠ 0) → RdV h F η (.osl j e off 0 cap) (.slice none 0 c)
  | bptr {j b : Nat} (off : Nat) : η j b → RdV h F η (.bptr j off) (.pointer (some ⟨b, off, none⟩))
  | aptr {j b : Nat} (e : Ty) (i off : Nat) : η j b → RdV h F η (.aptr j e i off) (.pointer (some ⟨b, i * e.size + off, none⟩))
  | fptr {t : Ty} {x : t.D} {b o : Nat} {cs : List Value} : b < h.n → F b → areadN h b o t.size = some cs → RdC h F t cs x → RdV h F η (.fptr t x) (.pointer (some ⟨b, o, none⟩))
  | clo {f : Nat} {xs us : List DV} {vs ws : Array Value} : xs.length = vs.size → (∀ (i : Nat) (d : DV) (x : Value), xs[i]? = some d → vs[i]? = some x → RdV h F η d x) →
      us.length = ws.size → (∀ (i : Nat) (d : DV) (x : Value), us[i]? = some d → ws[i]? = some x → RdV h F η d x) → RdV h F η (.clo f xs us) (.func (.func f) vs ws)
  | yl {j b : Nat} : η j b → RdV h F η (.yl j) (.func (.yield b) #[] #[])
  | nilF : RdV h F η .nilF .nilFunc
  | nilP : RdV h F η .nilP (.pointer none)
  | nilI : RdV h F η .nilI .nilIface
  | nils : RdV h F η .nils (.slice none 0 0)
  | und : RdV h F η .und undef
  | any (v : Value) : RdV h F η .any v

theorem RdV.onil0 {h : AHeap} {F : Nat → Prop} {η : Nat → Nat → Prop} {j : Nat} {e : Ty} {off : Nat} {cap : Option Nat} (hc : cap = none ∨ cap = some 0) : RdV h F η (.osl j e off 0 cap) (.slice none 0 0) :=
  .onil (.inl ⟨.inl rfl, hc⟩) (fun q => absurd rfl q)

theorem nil_off {c : Nat} {cap : Option Nat} (hc : NilC c cap) (ho : c ≠ 0 → 0 ≠ 0) : c = 0 ∧ (cap = none ∨ cap = some 0) := by
  have h0 : c = 0 := Classical.byContradiction fun q => ho q rfl
  subst h0
  refine ⟨rfl, ?_⟩
  rcases hc with q | q
  · exact q.2
  · exact absurd q.1 (by unfold big; omega)

/-! Blocks of one's own. -/

abbrev DT := List (Nat × DV)

def lk : DT → Nat → Option DV
  | [], _ => none
  | (d, v) :: r, i => bif Nat.beq i d then some v else lk r i

inductive Loc where
  | box (cells : List DV)
  | arr (e : Ty) (xs : List e.D)
  | lp (st : LoopState) (pe : AEx) (n : Nat) (ps : List Nat) (a b : Code) (t : DT)

structure Own where
  nx : Nat
  fx : Nat
  m : List (Nat × Loc)

def lkO : List (Nat × Loc) → Nat → Option Loc
  | [], _ => none
  | (d, v) :: r, i => bif Nat.beq i d then some v else lkO r i

def stO : List (Nat × Loc) → Nat → Loc → List (Nat × Loc)
  | [], _, _ => []
  | (d, v) :: r, i, x => bif Nat.beq i d then (d, x) :: r else (d, v) :: stO r i x

structure DS where
  t : DT
  L : Own

def Fz (G : Nat → Prop) (η : Nat → Nat → Prop) (m : List (Nat × Loc)) (b : Nat) : Prop := G b ∧ ∀ j l, lkO m j = some l → ¬ η j b

inductive LocR (h : AHeap) (F : Nat → Prop) (η : Nat → Nat → Prop) : AObj → Loc → Prop where
  | box {cells : List DV} {c : List Value} {e : Nat} : cells.length = c.length → (∀ (i : Nat) (d : DV) (x : Value), cells[i]? = some d → c[i]? = some x → RdV h F η d x) → LocR h F η (.cells c e) (.box cells)
  | arr {e : Ty} {xs : List e.D} {cs junk : List Value} {z : Nat} : Cells (RdC h F e) cs xs → LocR h F η (.cells (cs ++ junk) z) (.arr e xs)
  | lp {st : LoopState} {pe : AEx} {n : Nat} {ps : List Nat} {a b : Code} {t : DT} {ta : List (Nat × Value)} : (∀ i v, look? ta i = some v → i < 4096) → (∀ i d, lk t i = some d → ∃ v, look? ta i = some v ∧ RdV h F η d v) →
      LocR h F η (.lp ⟨st, exCode pe, n, ta, ps, a, b⟩) (.lp st pe n ps a b t)

structure OwnR (h : AHeap) (G : Nat → Prop) (η : Nat → Nat → Prop) (L : Own) : Prop where
  loc : ∀ (j : Nat) (l : Loc), lkO L.m j = some l → (∃ b, η j b ∧ LocR h (Fz G η L.m) η (h.get b) l) ∨ ((∃ e xs, l = .arr e xs ∧ xs = []) ∧ j < L.nx ∧ ∀ b, ¬ η j b)
  lt : ∀ j b, η j b → j < L.nx ∧ b < h.n
  fn : ∀ j b b', η j b → η j b' → b = b'
  inj : ∀ (i j b : Nat), η i b → η j b → i = j

end Go.Am

/-
  The data layer: what is read stays as it is where memory stays as it is.
-/
namespace Go.Am
open Go Go.RowKit

variable {h h' : AHeap} {F F' : Nat → Prop} {η η' : Nat → Nat → Prop}

section cells
variable {α : Type} {R R' : List Value → α → Prop}

theorem Cells.mono (H : ∀ c x, R c x → R' c x) : ∀ (l : List α) (cs : List Value), Cells R cs l → Cells R' cs l
  | [], _, hc => hc
  | _ :: l, _, ⟨c1, c2, e, h1, h2⟩ => ⟨c1, c2, e, H _ _ h1, Cells.mono H l c2 h2⟩

theorem Cells.length {sz : Nat} (H : ∀ c x, R c x → c.length = sz) : ∀ (l : List α) (cs : List Value), Cells R cs l → cs.length = l.length * sz
  | [], _, hc => by cases hc; simp
  | _ :: l, _, ⟨c1, c2, e, h1, h2⟩ => by
    have := Cells.length H l c2 h2
    rw [e, List.length_append, H _ _ h1, this, List.length_cons, Nat.succ_mul]; omega

theorem Cells.append : ∀ (l l' : List α) (cs cs' : List Value), Cells R cs l → Cells R cs' l' → Cells R (cs ++ cs') (l ++ l')
  | [], _, _, _, hc, hc' => by cases hc; exact hc'
  | _ :: l, l', _, cs', ⟨c1, c2, e, h1, h2⟩, hc' => ⟨c1, c2 ++ cs', by rw [e, List.append_assoc], h1, Cells.append l l' c2 cs' h2 hc'⟩

theorem Cells.split {sz : Nat} (H : ∀ c x, R c x → c.length = sz) : ∀ (l : List α) (cs : List Value) (k : Nat), Cells R cs l → k ≤ l.length → Cells R (cs.take (k * sz)) (l.take k) ∧ Cells R (cs.drop (k * sz)) (l.drop k)
  | l, cs, 0, hc, _ => by simp; exact ⟨rfl, hc⟩
  | [], _, k + 1, _, hk => by simp at hk
  | x :: l, _, k + 1, ⟨c1, c2, e, h1, h2⟩, hk => by
    have hl := H _ _ h1
    obtain ⟨g1, g2⟩ := Cells.split H l c2 k h2 (by simpa using hk)
    have e1 : (k + 1) * sz = c1.length + k * sz := by rw [hl, Nat.succ_mul]; omega
    rw [e, e1]
    refine ⟨⟨c1, c2.take (k * sz), ?_, h1, g1⟩, ?_⟩
    · rw [List.take_length_add_append]
    · rw [List.drop_length_add_append]; exact g2

theorem Cells.get {sz : Nat} (H : ∀ c x, R c x → c.length = sz) {l : List α} {cs : List Value} {i : Nat} {x : α} (hc : Cells R cs l) (hx : l[i]? = some x) : R ((cs.drop (i * sz)).take sz) x ∧ i * sz + sz ≤ cs.length := by
  have hi := (List.getElem?_eq_some_iff.1 hx).1
  obtain ⟨_, g2⟩ := Cells.split H l cs i hc (by omega)
  have e : l.drop i = x :: l.drop (i + 1) := by
    rw [List.drop_eq_getElem_cons hi]
    congr 1
    exact (List.getElem?_eq_some_iff.1 hx).2
  rw [e] at g2
  obtain ⟨c1, c2, e2, h1, h2⟩ := g2
  have hl := H _ _ h1
  refine ⟨by rw [e2, ← hl, List.take_left]; exact h1, ?_⟩
  rw [Cells.length H _ _ hc]
  have := Nat.mul_le_mul_right sz (show i + 1 ≤ l.length from hi)
  rwa [Nat.succ_mul] at this

theorem Cells.set {sz : Nat} (H : ∀ c x, R c x → c.length = sz) : ∀ (l : List α) (cs : List Value) (i : Nat) (x : α) (c : List Value), Cells R cs l → i < l.length → R c x → Cells R (setAll cs (i * sz) c) (l.set i x)
  | [], _, i, _, _, _, hi, _ => by simp at hi
  | y :: l, _, 0, x, c, ⟨c1, c2, e, h1, h2⟩, _, hx => by
    refine ⟨c, c2, ?_, hx, h2⟩
    have := setAll_eq c [] c2 c1 (by rw [H _ _ h1, H _ _ hx])
    rw [e]
    simpa using this
  | y :: l, _, i + 1, x, c, ⟨c1, c2, e, h1, h2⟩, hi, hx => by
    refine ⟨c1, setAll c2 (i * sz) c, ?_, h1, Cells.set H l c2 i x c h2 (by simpa using hi) hx⟩
    have hl := H _ _ h1
    have e1 : (i + 1) * sz = c1.length + i * sz := by rw [hl, Nat.succ_mul]; omega
    rw [e, e1]
    clear e e1 h1 h2 hi hx hl
    induction c generalizing c2 i with
    | nil => rfl
    | cons v c ih => 
      have key : ∀ (vs cs : List Value) (k : Nat), setAll (c1 ++ cs) (c1.length + k) vs = c1 ++ setAll cs k vs := by
        intro vs
        induction vs with
        | nil => intros; rfl
        | cons w vs ih2 => intro cs k; simp only [setAll]; rw [List.set_append_right _ _ (by omega)]; rw [show c1.length + k - c1.length = k from by omega, show c1.length + k + 1 = c1.length + (k + 1) from by omega, ih2]
      exact key _ _ _
end cells

theorem RdC.length : ∀ (t : Ty) (cs : List Value) (x : t.D), RdC h F t cs x → cs.length = t.size
  | .int _, _, _, e => by rw [show _ = _ from e]; rfl
  | .bool, _, _, e => by rw [show _ = _ from e]; rfl
  | .str, _, _, e => by rw [show _ = _ from e]; rfl
  | .unit, _, _, e => by rw [show _ = _ from e]; rfl
  | .pair a b, _, _, ⟨c1, c2, e, h1, h2⟩ => by rw [e, List.length_append, RdC.length a _ _ h1, RdC.length b _ _ h2]; rfl
  | .sl _, _, _, ⟨v, e, _⟩ => by rw [e]; rfl

/-- Frozen memory stays. -/
def Stays (h h' : AHeap) (F F' : Nat → Prop) : Prop := ∀ b, b < h.n → F b → b < h'.n ∧ F' b ∧ h'.get b = h.get b

theorem aread_same {b i : Nat} (e : h'.get b = h.get b) : aread h' b i = aread h b i := by unfold aread; rw [e]
theorem areadN_same {b i n : Nat} (e : h'.get b = h.get b) : areadN h' b i n = areadN h b i n := by unfold areadN; rw [e]

theorem SlV.mono {α : Type} {R R' : List Value → α → Prop} (S : Stays h h' F F') (H : ∀ c x, R c x → R' c x) {sz : Nat} {s : Sl α} {v : Value} (hs : SlV h F sz R s v) : SlV h' F' sz R' s v := by
  rcases hs with hs | ⟨b, o, c, cs, h1, h2, h3, h4, h5, h6, hz, h7, h8⟩
  · exact .inl hs
  · obtain ⟨g1, g2, g3⟩ := S b h2 h3
    exact .inr ⟨b, o, c, cs, h1, g1, g2, h4, h5, h6, (by unfold eszOf at hz ⊢; rw [g3]; exact hz), by rw [areadN_same g3]; exact h7, Cells.mono H _ _ h8⟩

theorem RdC.mono (S : Stays h h' F F') : ∀ (t : Ty) (cs : List Value) (x : t.D), RdC h F t cs x → RdC h' F' t cs x
  | .int _, _, _, e => e
  | .bool, _, _, e => e
  | .str, _, _, e => e
  | .unit, _, _, e => e
  | .pair a b, _, _, ⟨c1, c2, e, h1, h2⟩ => ⟨c1, c2, e, RdC.mono S a _ _ h1, RdC.mono S b _ _ h2⟩
  | .sl e, _, _, ⟨v, hv, hs⟩ => ⟨v, hv, hs.mono S (fun c x hx => RdC.mono S e c x hx)⟩

theorem RdC.cell : ∀ (t : Ty) (cs : List Value) (x : t.D), RdC h F t cs x → ∀ v ∈ cs, isCell v = true
  | .int _, _, _, e => by rw [show _ = _ from e]; simp [isCell]
  | .bool, _, _, e => by rw [show _ = _ from e]; simp [isCell]
  | .str, _, _, e => by rw [show _ = _ from e]; simp [isCell]
  | .unit, _, _, e => by rw [show _ = _ from e]; simp
  | .pair a b, _, _, ⟨c1, c2, e, h1, h2⟩ => by
    intro v hv
    rw [e, List.mem_append] at hv
    rcases hv with hv | hv
    · exact RdC.cell a _ _ h1 v hv
    · exact RdC.cell b _ _ h2 v hv
  | .sl _, _, _, ⟨v, e, hs⟩ => by
    rw [e]
    rcases hs with ⟨c, hs, _⟩ | ⟨b, o, c, cs, h1, _⟩ <;> simp [isCell, *]

theorem Cells.cell {t : Ty} : ∀ (l : List t.D) (cs : List Value), Cells (RdC h F t) cs l → ∀ v ∈ cs, isCell v = true
  | [], _, e => by rw [show _ = _ from e]; simp
  | _ :: l, _, ⟨c1, c2, e, h1, h2⟩ => by
    intro v hv
    rw [e, List.mem_append] at hv
    rcases hv with hv | hv
    · exact RdC.cell t _ _ h1 v hv
    · exact Cells.cell l _ h2 v hv

/-! Killing: what names a block that is gone tells nothing any more. -/

mutual
def DV.kill (p : Nat → Bool) : DV → DV
  | .osl j e off len cap => bif p j then .any else .osl j e off len cap
  | .bptr j off => bif p j then .any else .bptr j off
  | .aptr j e i off => bif p j then .any else .aptr j e i off
  | .yl j => bif p j then .any else .yl j
  | .agg l => .agg (DV.killL p l)
  | .tup l => .tup (DV.killL p l)
  | .clo f xs us => .clo f (DV.killL p xs) (DV.killL p us)
  | .int k x => .int k x
  | .bool b => .bool b
  | .lit b => .lit b
  | .str s => .str s
  | .sl e s => .sl e s
  | .fptr t x => .fptr t x
  | .nilF => .nilF
  | .nilP => .nilP
  | .nilI => .nilI
  | .nils => .nils
  | .und => .und
  | .any => .any
def DV.killL (p : Nat → Bool) : List DV → List DV
  | [] => []
  | d :: l => DV.kill p d :: DV.killL p l
end

theorem DV.killL_map (p : Nat → Bool) : ∀ l : List DV, DV.killL p l = l.map (DV.kill p)
  | [] => rfl
  | d :: l => by simp only [DV.killL, List.map_cons, DV.killL_map p l]

/-- Names keep their blocks, but for some. -/
def Keeps (h h' : AHeap) (η η' : Nat → Nat → Prop) (p : Nat → Bool) : Prop := ∀ j b, p j = false → η j b → η' j b ∧ blen h' b = blen h b ∧ eszOf h' b = eszOf h b

theorem map_get {p : Nat → Bool} {l : List DV} {i : Nat} {d : DV} (h : (l.map (DV.kill p))[i]? = some d) : ∃ d0, l[i]? = some d0 ∧ d = d0.kill p := by
  rw [List.getElem?_map, Option.map_eq_some_iff] at h
  obtain ⟨a, h1, h2⟩ := h
  exact ⟨a, h1, h2.symm⟩

theorem RdV.kill {p : Nat → Bool} (S : Stays h h' F F') (K : Keeps h h' η η' p) {d : DV} {v : Value} (H : RdV h F η d v) : RdV h' F' η' (d.kill p) v := by
  induction H with
  | int k x => exact .int k x
  | bool b => exact .bool b
  | lit b => exact .lit b
  | str s => exact .str s
  | sl hs => exact .sl (hs.mono S (RdC.mono S _))
  | agg hl _ ih =>
    simp only [DV.kill, DV.killL_map]
    refine .agg (by simpa using hl) fun i d x hd hx => ?_
    obtain ⟨d0, h1, rfl⟩ := map_get hd
    exact ih i d0 x h1 hx
  | tup hl _ ih =>
    simp only [DV.kill, DV.killL_map]
    refine .tup (by simpa using hl) fun i d x hd hx => ?_
    obtain ⟨d0, h1, rfl⟩ := map_get hd
    exact ih i d0 x h1 hx
  | @osl j b e off len cap c n o h0 h1 h2 h3 h4 h5 h8 h6 =>
    simp only [DV.kill]
    cases hp : p j with
    | true => exact .any _
    | false =>
      obtain ⟨k1, k2, k3⟩ := K j b hp h0
      exact .osl c n o k1 (by rw [k2]; exact h1) h2 h3 h4 h5 h8 (by rw [k3]; exact h6)
  | @onil j e off cap c hc ho =>
    simp only [DV.kill]
    cases p j
    · exact .onil hc ho
    · exact .any _
  | @bptr j b off h0 =>
    simp only [DV.kill]
    cases hp : p j with
    | true => exact .any _
    | false => exact .bptr off (K j b hp h0).1
  | @aptr j b e i off h0 =>
    simp only [DV.kill]
    cases hp : p j with
    | true => exact .any _
    | false => exact .aptr e i off (K j b hp h0).1
  | fptr h1 h2 h3 h4 =>
    obtain ⟨g1, g2, g3⟩ := S _ h1 h2
    exact .fptr g1 g2 (by rw [areadN_same g3]; exact h3) (RdC.mono S _ _ _ h4)
  | clo hl _ hl2 _ ih ih2 =>
    simp only [DV.kill, DV.killL_map]
    refine .clo (by simpa using hl) (fun i d x hd hx => ?_) (by simpa using hl2) (fun i d x hd hx => ?_)
    · obtain ⟨d0, h1, rfl⟩ := map_get hd
      exact ih i d0 x h1 hx
    · obtain ⟨d0, h1, rfl⟩ := map_get hd
      exact ih2 i d0 x h1 hx
  | @yl j b h0 =>
    simp only [DV.kill]
    cases hp : p j with
    | true => exact .any _
    | false => exact .yl (K j b hp h0).1
  | nilF => exact .nilF
  | nilP => exact .nilP
  | nilI => exact .nilI
  | nils => exact .nils
  | und => exact .und
  | any v => exact .any v

/-- Nothing is killed. -/
theorem RdV.mono (S : Stays h h' F F') (K : Keeps h h' η η' fun _ => false) {d : DV} {v : Value} (H : RdV h F η d v) : RdV h' F' η' d v := by
  have key : ∀ d : DV, d.kill (fun _ => false) = d := fun d => by
    induction d using DV.rec (motive_2 := fun l => DV.killL (fun _ => false) l = l) <;> simp_all [DV.kill, DV.killL]
  have := H.kill (p := fun _ => false) S K
  rwa [key] at this

end Go.Am

/-
  The data layer: states, and how memory may turn.
-/
namespace Go.Am
open Go Go.RowKit

variable {h h' : AHeap} {G F F' : Nat → Prop} {η η' : Nat → Nat → Prop} {L L' : Own}

theorem lkO_cons_eq {m : List (Nat × Loc)} {j : Nat} {l : Loc} : lkO ((j, l) :: m) j = some l := by simp [lkO]
theorem lkO_cons_ne {m : List (Nat × Loc)} {i j : Nat} {l : Loc} (h : i ≠ j) : lkO ((j, l) :: m) i = lkO m i := by simp only [lkO, beq_no h, cond_false]

theorem lkO_stO_ne {j i : Nat} {l : Loc} (h : i ≠ j) : ∀ m : List (Nat × Loc), lkO (stO m j l) i = lkO m i
  | [] => rfl
  | (d, v) :: r => by
    simp only [stO]
    by_cases hj : j = d
    · subst hj
      simp only [Nat.beq_refl, cond_true, lkO_cons_ne h]
    · simp only [beq_no hj, cond_false]
      by_cases hi : i = d
      · subst hi; simp [lkO]
      · rw [lkO_cons_ne hi, lkO_cons_ne hi, lkO_stO_ne h r]

theorem lkO_stO_eq {j : Nat} {l l0 : Loc} : ∀ m : List (Nat × Loc), lkO m j = some l0 → lkO (stO m j l) j = some l
  | [], h => by cases h
  | (d, v) :: r, h => by
    simp only [stO]
    by_cases hj : j = d
    · subst hj; simp [lkO]
    · simp only [beq_no hj, cond_false]
      rw [lkO_cons_ne hj] at h ⊢
      exact lkO_stO_eq r h

def rmO (j : Nat) : List (Nat × Loc) → List (Nat × Loc)
  | [] => []
  | (d, v) :: r => bif Nat.beq j d then rmO j r else (d, v) :: rmO j r

theorem lkO_rmO_ne {j i : Nat} (h : i ≠ j) : ∀ m : List (Nat × Loc), lkO (rmO j m) i = lkO m i
  | [] => rfl
  | (d, v) :: r => by
    simp only [rmO]
    by_cases hj : j = d
    · subst hj
      simp only [Nat.beq_refl, cond_true]
      rw [lkO_rmO_ne h r, lkO_cons_ne h]
    · simp only [beq_no hj, cond_false]
      by_cases hi : i = d
      · subst hi; simp [lkO]
      · rw [lkO_cons_ne hi, lkO_cons_ne hi, lkO_rmO_ne h r]

theorem lkO_rmO_eq {j : Nat} : ∀ m : List (Nat × Loc), lkO (rmO j m) j = none
  | [] => rfl
  | (d, v) :: r => by
    simp only [rmO]
    by_cases hj : j = d
    · subst hj; simp only [Nat.beq_refl, cond_true]; exact lkO_rmO_eq r
    · simp only [beq_no hj, cond_false, lkO_cons_ne hj]; exact lkO_rmO_eq r

theorem lk_map (f : DV → DV) : ∀ (t : DT) (i : Nat), lk (t.map fun x => (x.1, f x.2)) i = (lk t i).map f
  | [], _ => rfl
  | (j, d) :: t, i => by
    simp only [List.map_cons, lk]
    cases Nat.beq i j
    · simp only [cond_false]; exact lk_map f t i
    · rfl

def Loc.kill (p : Nat → Bool) : Loc → Loc
  | .lp st pe n ps a b t => .lp st pe n ps a b (t.map fun x => (x.1, DV.kill p x.2))
  | .box cells => .box (DV.killL p cells)
  | .arr e xs => .arr e xs

def killO (p : Nat → Bool) : List (Nat × Loc) → List (Nat × Loc)
  | [] => []
  | (d, v) :: r => (d, v.kill p) :: killO p r

theorem lkO_killO {p : Nat → Bool} {j : Nat} : ∀ m : List (Nat × Loc), lkO (killO p m) j = (lkO m j).map (Loc.kill p)
  | [] => rfl
  | (d, v) :: r => by
    simp only [killO]
    by_cases hj : j = d
    · subst hj; simp [lkO]
    · rw [lkO_cons_ne hj, lkO_cons_ne hj, lkO_killO r]

theorem LocR.kill {p : Nat → Bool} (S : Stays h h' F F') (K : Keeps h h' η η' p) {o : AObj} {l : Loc} (H : LocR h F η o l) : LocR h' F' η' o (l.kill p) := by
  cases H with
  | lp hta hv =>
    refine .lp hta fun i d hd => ?_
    rw [lk_map, Option.map_eq_some_iff] at hd
    obtain ⟨d0, h1, rfl⟩ := hd
    obtain ⟨v, h2, h3⟩ := hv i d0 h1
    exact ⟨v, h2, h3.kill S K⟩
  | box hl hv =>
    simp only [Loc.kill, DV.killL_map]
    refine .box (by simpa using hl) fun i d x hd hx => ?_
    obtain ⟨d0, h1, rfl⟩ := map_get hd
    exact (hv i d0 x h1 hx).kill S K
  | arr hc => exact .arr (Cells.mono (RdC.mono S _) _ _ hc)

theorem LocR.mono (S : Stays h h' F F') (K : Keeps h h' η η' fun _ => false) {o : AObj} {l : Loc} (H : LocR h F η o l) : LocR h' F' η' o l := by
  cases H with
  | lp hta hv => exact .lp hta fun i d hd => let ⟨v, h2, h3⟩ := hv i d hd; ⟨v, h2, h3.mono S K⟩
  | box hl hv => exact .box hl fun i d x hd hx => (hv i d x hd hx).mono S K
  | arr hc => exact .arr (Cells.mono (RdC.mono S _) _ _ hc)

/-- What a function's call may touch, and what stood there at its beginning. -/
structure Env where
  h : AHeap
  η : Nat → Nat → Prop
  O : Nat → Prop
  G : Nat → Prop
  sv : PT
  dv : List Nat

/-- Where frozen data may lie. -/
def Env.gd (E : Env) (b : Nat) : Prop := E.h.n ≤ b ∨ E.G b

structure HS (E : Env) (η : Nat → Nat → Prop) (L : Own) (h : AHeap) : Prop where
  own : OwnR h E.gd η L
  gone : ∀ b, h.n ≤ b → h.get b = .dead
  le : E.h.n ≤ h.n
  keep : ∀ b, b < E.h.n → ¬ E.O b → h.get b = E.h.get b
  mine : ∀ j l b, lkO L.m j = some l → η j b → E.h.n ≤ b ∨ (E.O b ∧ (j < L.fx ∨ E.G b))
  fix : ∀ j b, j < L.fx → E.η j b → η j b ∧ blen h b = blen E.h b ∧ eszOf h b = eszOf E.h b
  rs : ∀ j b, E.η j b → j < L.fx
  bk : L.fx ≤ L.nx ∧ ∀ j b, j < L.fx → η j b → E.η j b
  nm : ∀ j b, η j b → E.h.n ≤ b ∨ E.O b ∨ E.η j b

/-- What was read stays, but for what is killed. -/
structure Mv (G : Nat → Prop) (η : Nat → Nat → Prop) (L : Own) (h : AHeap) (η' : Nat → Nat → Prop) (L' : Own) (h' : AHeap) (p : Nat → Bool) : Prop where
  st : Stays h h' (Fz G η L.m) (Fz G η' L'.m)
  kp : Keeps h h' η η' p

variable {E : Env}

theorem HS.fix_mv (H : HS E η L h) {η' : Nat → Nat → Prop} {L' : Own} {h' : AHeap} {p : Nat → Bool} (K : Keeps h h' η η' p) (hp : ∀ j, j < L.fx → p j = false) (hfx : L'.fx = L.fx) :
    ∀ j b, j < L'.fx → E.η j b → η' j b ∧ blen h' b = blen E.h b ∧ eszOf h' b = eszOf E.h b := by
  intro j b hj hη
  obtain ⟨g1, g2, g3⟩ := H.fix j b (by omega) hη
  obtain ⟨k1, k2, k3⟩ := K j b (hp j (by omega)) g1
  exact ⟨k1, k2.trans g2, k3.trans g3⟩

theorem Keeps.refl {p : Nat → Bool} : Keeps h h η η p := fun _ _ _ k => ⟨k, rfl, rfl⟩
theorem Stays.refl : Stays h h F F := fun _ a b => ⟨a, b, rfl⟩
theorem Mv.refl {p : Nat → Bool} : Mv E.gd η L h η L h p := ⟨.refl, .refl⟩

/-- A new block. -/
def addN (η : Nat → Nat → Prop) (j b : Nat) : Nat → Nat → Prop := fun i c => η i c ∨ (i = j ∧ c = b)

theorem HS.mvAlloc (H : HS E η L h) (o : AObj) (l : Loc) : Mv E.gd η L h (addN η L.nx h.n) ⟨L.nx + 1, L.fx, (L.nx, l) :: L.m⟩ (h.push o) fun _ => false := by
  refine ⟨fun b hb hF => ⟨by simp; omega, ⟨hF.1, fun j x hj hη => ?_⟩, by rw [AHeap.get_push, if_neg (by omega)]⟩, fun j b _ hη => ⟨.inl hη, ?_, ?_⟩⟩
  · rcases hη with hη | ⟨_, rfl⟩
    · by_cases hjn : j = L.nx
      · have := (H.own.lt j b hη).1; omega
      · rw [lkO_cons_ne hjn] at hj
        exact hF.2 j x hj hη
    · omega
  · have := (H.own.lt j b hη).2
    unfold blen; rw [AHeap.get_push, if_neg (by omega)]
  · have := (H.own.lt j b hη).2
    unfold eszOf; rw [AHeap.get_push, if_neg (by omega)]

theorem HS.alloc (H : HS E η L h) {o : AObj} {l : Loc} (hl : LocR (h.push o) (Fz E.gd (addN η L.nx h.n) ((L.nx, l) :: L.m)) (addN η L.nx h.n) o l) :
    HS E (addN η L.nx h.n) ⟨L.nx + 1, L.fx, (L.nx, l) :: L.m⟩ (h.push o) := by
  have M := H.mvAlloc o l
  refine ⟨⟨fun j x hj => ?_, fun j b hη => ?_, fun j b c h1 h2 => ?_, fun i j b h1 h2 => ?_⟩, fun b hb => ?_, ?_, fun b hb hO => ?_, fun j x b hj hη => ?_, H.fix_mv M.kp (fun _ _ => rfl) rfl, H.rs, ⟨Nat.le_succ_of_le H.bk.1, fun j b hj hη => ?_⟩, fun j b hη => ?_⟩
  · by_cases hjn : j = L.nx
    · subst hjn
      rw [lkO_cons_eq] at hj
      cases hj
      exact .inl ⟨h.n, .inr ⟨rfl, rfl⟩, by rw [AHeap.get_push, if_pos rfl]; exact hl⟩
    · rw [lkO_cons_ne hjn] at hj
      rcases H.own.loc j x hj with ⟨b, h1, h2⟩ | ⟨h1, h2, h3⟩
      · have := (H.own.lt j b h1).2
        exact .inl ⟨b, .inl h1, by rw [AHeap.get_push, if_neg (by omega)]; exact h2.mono M.st M.kp⟩
      · refine .inr ⟨h1, by simp; omega, fun b hb => ?_⟩
        rcases hb with hb | ⟨hb, _⟩
        · exact h3 b hb
        · exact hjn hb
  · rcases hη with hη | ⟨rfl, rfl⟩
    · have := H.own.lt j b hη; simp; omega
    · simp
  · rcases h1 with h1 | ⟨rfl, rfl⟩ <;> rcases h2 with h2 | ⟨e, rfl⟩
    · exact H.own.fn j b c h1 h2
    · have := H.own.lt j b h1; omega
    · have := H.own.lt _ c h2; omega
    · rfl
  · rcases h1 with h1 | ⟨rfl, rfl⟩ <;> rcases h2 with h2 | ⟨e, e2⟩
    · exact H.own.inj i j b h1 h2
    · have := H.own.lt i b h1; omega
    · have := H.own.lt _ _ h2; omega
    · exact e.symm
  · rw [AHeap.get_push, if_neg (by simp at hb; omega)]; exact H.gone b (by simp at hb; omega)
  · simp; have := H.le; omega
  · rw [AHeap.get_push, if_neg (by have := H.le; omega)]; exact H.keep b hb hO
  · rcases hη with hη | ⟨_, rfl⟩
    · by_cases hjn : j = L.nx
      · have := (H.own.lt j b hη).1; omega
      · rw [lkO_cons_ne hjn] at hj
        exact H.mine j x b hj hη
    · exact .inl H.le
  · rcases hη with hη | ⟨rfl, _⟩
    · exact H.bk.2 j b hj hη
    · have := H.bk.1
      have hj : L.nx < L.fx := hj
      omega
  · rcases hη with hη | ⟨_, rfl⟩
    · exact H.nm j b hη
    · exact .inl H.le

theorem Fz.sto {m : List (Nat × Loc)} {j : Nat} {l l0 : Loc} (hj : lkO m j = some l0) {b : Nat} : Fz G η (stO m j l) b ↔ Fz G η m b := by
  constructor
  · intro H
    refine ⟨H.1, fun i x hi => ?_⟩
    by_cases hij : i = j
    · subst hij; exact H.2 i l (lkO_stO_eq m hj)
    · exact H.2 i x (by rw [lkO_stO_ne hij]; exact hi)
  · intro H
    refine ⟨H.1, fun i x hi => ?_⟩
    by_cases hij : i = j
    · subst hij; exact H.2 i l0 hj
    · exact H.2 i x (by rw [lkO_stO_ne hij] at hi; exact hi)

/-- A block of one's own is written. -/
theorem HS.mvWrite (H : HS E η L h) {j b : Nat} {l0 l : Loc} {o : AObj} (hj : lkO L.m j = some l0) (hb : η j b) (hs : o.row.map (·.length) = blen h b) (hz : eszOf (h.set b o) b = eszOf h b) :
    Mv E.gd η L h η ⟨L.nx, L.fx, stO L.m j l⟩ (h.set b o) fun _ => false := by
  refine ⟨fun c hc hF => ⟨hc, (Fz.sto hj).2 hF, by rw [AHeap.get_set, if_neg]; rintro rfl; exact hF.2 j l0 hj hb⟩, fun i c _ hη => ⟨hη, ?_, ?_⟩⟩
  · by_cases hcb : c = b
    · subst hcb; unfold blen at hs ⊢; rw [AHeap.get_set, if_pos rfl]; exact hs
    · unfold blen; rw [AHeap.get_set, if_neg hcb]
  · by_cases hcb : c = b
    · subst hcb; exact hz
    · unfold eszOf; rw [AHeap.get_set, if_neg hcb]

theorem HS.write (H : HS E η L h) {j b : Nat} {l0 l : Loc} {o : AObj} (hj : lkO L.m j = some l0) (hb : η j b) (hs : o.row.map (·.length) = blen h b) (hz : eszOf (h.set b o) b = eszOf h b)
    (hl : LocR (h.set b o) (Fz E.gd η (stO L.m j l)) η o l) : HS E η ⟨L.nx, L.fx, stO L.m j l⟩ (h.set b o) := by
  have M := H.mvWrite (l := l) hj hb hs hz
  refine ⟨⟨fun i x hi => ?_, fun i c hη => H.own.lt i c hη, H.own.fn, H.own.inj⟩, fun c hc => ?_, H.le, fun c hc hO => ?_, fun i x c hi hη => ?_, H.fix_mv M.kp (fun _ _ => rfl) rfl, H.rs, H.bk, H.nm⟩
  · by_cases hij : i = j
    · subst hij
      rw [lkO_stO_eq _ hj] at hi
      cases hi
      exact .inl ⟨b, hb, by rw [AHeap.get_set, if_pos rfl]; exact hl⟩
    · rw [lkO_stO_ne hij] at hi
      rcases H.own.loc i x hi with ⟨c, h1, h2⟩ | h1
      · have hcb : c ≠ b := by rintro rfl; exact hij (H.own.inj i j c h1 hb)
        exact .inl ⟨c, h1, by rw [AHeap.get_set, if_neg hcb]; exact h2.mono M.st M.kp⟩
      · exact .inr h1
  · have := (H.own.lt j b hb).2
    rw [AHeap.get_set, if_neg (by simp at hc; omega)]; exact H.gone c hc
  · rw [AHeap.get_set, if_neg]
    · exact H.keep c hc hO
    · rintro rfl
      rcases H.mine j l0 c hj hb with h1 | h1
      · omega
      · exact hO h1.1
  · by_cases hij : i = j
    · subst hij; exact H.mine i l0 c hj hη
    · rw [lkO_stO_ne hij] at hi; exact H.mine i x c hi hη

/-- A block of one's own is given another place. -/
def moveN (η : Nat → Nat → Prop) (j b : Nat) : Nat → Nat → Prop := fun i c => (i ≠ j ∧ η i c) ∨ (i = j ∧ c = b)

def renew (L : Own) (j : Nat) (l : Loc) : Own := ⟨L.nx, L.fx, stO (killO (Nat.beq j) L.m) j l⟩

theorem renew_ne {j i : Nat} {l : Loc} (h : i ≠ j) : lkO (renew L j l).m i = (lkO L.m i).map (Loc.kill (Nat.beq j)) := by
  simp only [renew, lkO_stO_ne h, lkO_killO]

theorem renew_eq {j : Nat} {l l0 : Loc} (h : lkO L.m j = some l0) : lkO (renew L j l).m j = some l := by
  simp only [renew]
  exact lkO_stO_eq (l0 := l0.kill (Nat.beq j)) _ (by rw [lkO_killO, h]; rfl)

/-- The heap h1 is h, but for the old block (if there is one). -/
theorem HS.mvRenew (H : HS E η L h) {j : Nat} {l0 l : Loc} {o : AObj} {h1 : AHeap} (hj : lkO L.m j = some l0) (hn : h1.n = h.n) (hg : ∀ c, ¬ η j c → h1.get c = h.get c) :
    Mv E.gd η L h (moveN η j h.n) (renew L j l) (h1.push o) (Nat.beq j) := by
  refine ⟨fun c hc hF => ?_, fun i c hp hη => ?_⟩
  · have hcb : ¬ η j c := hF.2 j l0 hj
    refine ⟨by simp [hn]; omega, ⟨hF.1, fun i x hi hη => ?_⟩, by rw [AHeap.get_push, hn, if_neg (by omega), hg c hcb]⟩
    rcases hη with ⟨hij, hη⟩ | ⟨_, rfl⟩
    · rw [renew_ne hij] at hi
      obtain ⟨y, hy, _⟩ := Option.map_eq_some_iff.1 hi
      exact hF.2 i y hy hη
    · omega
  · have hij : i ≠ j := by rintro rfl; simp at hp
    have hcb : ¬ η j c := fun hc => hij (H.own.inj i j c hη hc)
    have := (H.own.lt i c hη).2
    refine ⟨.inl ⟨hij, hη⟩, ?_, ?_⟩
    · unfold blen; rw [AHeap.get_push, hn, if_neg (by omega), hg c hcb]
    · unfold eszOf; rw [AHeap.get_push, hn, if_neg (by omega), hg c hcb]

theorem HS.jlt (H : HS E η L h) {j : Nat} {l : Loc} (hj : lkO L.m j = some l) : j < L.nx := by
  rcases H.own.loc j l hj with ⟨b, h1, _⟩ | ⟨_, h1, _⟩
  · exact (H.own.lt j b h1).1
  · exact h1

theorem HS.renew (H : HS E η L h) {j : Nat} {l0 l : Loc} {o : AObj} {h1 : AHeap} (hj : lkO L.m j = some l0) (hf : L.fx ≤ j) (hn : h1.n = h.n) (hg : ∀ c, ¬ η j c → h1.get c = h.get c)
    (hl : LocR (h1.push o) (Fz E.gd (moveN η j h.n) (renew L j l).m) (moveN η j h.n) o l) : HS E (moveN η j h.n) (renew L j l) (h1.push o) := by
  have M := H.mvRenew (l := l) (o := o) hj hn hg
  have hjl := H.jlt hj
  refine ⟨⟨fun i x hi => ?_, fun i c hη => ?_, fun i c c' p q => ?_, fun i i' c p q => ?_⟩, fun c hc => ?_, by simp [hn]; have := H.le; omega, fun c hc hO => ?_, fun i x c hi hη => ?_, H.fix_mv M.kp (fun i hi => beq_no (by omega)) rfl, H.rs, ⟨H.bk.1, fun i c hi hη => ?_⟩, fun i c hη => ?_⟩
  · by_cases hij : i = j
    · subst hij
      rw [renew_eq hj] at hi
      cases hi
      exact .inl ⟨h.n, .inr ⟨rfl, rfl⟩, by rw [AHeap.get_push, hn, if_pos rfl]; exact hl⟩
    · rw [renew_ne hij] at hi
      obtain ⟨y, hy, rfl⟩ := Option.map_eq_some_iff.1 hi
      rcases H.own.loc i y hy with ⟨c, k1, k2⟩ | ⟨⟨e, xs, k1, k2⟩, k3, k4⟩
      · have hcb : ¬ η j c := fun hc => hij (H.own.inj i j c k1 hc)
        have := (H.own.lt i c k1).2
        exact .inl ⟨c, .inl ⟨hij, k1⟩, by rw [AHeap.get_push, hn, if_neg (by omega), hg c hcb]; exact k2.kill M.st M.kp⟩
      · refine .inr ⟨⟨e, xs, by rw [k1]; rfl, k2⟩, k3, fun b hb => ?_⟩
        rcases hb with ⟨_, hb⟩ | ⟨hb, _⟩
        · exact k4 b hb
        · exact hij hb
  · rcases hη with ⟨_, hη⟩ | ⟨rfl, rfl⟩
    · have := H.own.lt i c hη; simp only [Am.renew, AHeap.n_push, hn]; omega
    · simp only [Am.renew, AHeap.n_push, hn]; omega
  · rcases p with ⟨p1, p2⟩ | ⟨p1, p2⟩ <;> rcases q with ⟨q1, q2⟩ | ⟨q1, q2⟩
    · exact H.own.fn i c c' p2 q2
    · exact absurd q1 p1
    · exact absurd p1 q1
    · rw [p2, q2]
  · rcases p with ⟨p1, p2⟩ | ⟨p1, p2⟩ <;> rcases q with ⟨q1, q2⟩ | ⟨q1, q2⟩
    · exact H.own.inj i i' c p2 q2
    · have := (H.own.lt i c p2).2; omega
    · have := (H.own.lt i' c q2).2; omega
    · rw [p1, q1]
  · simp only [AHeap.n_push, hn] at hc
    rw [AHeap.get_push, hn, if_neg (by omega), hg c (fun hc' => by have := (H.own.lt j c hc').2; omega)]; exact H.gone c (by omega)
  · have := H.le
    rw [AHeap.get_push, hn, if_neg (by omega), hg]
    · exact H.keep c hc hO
    · intro hc'
      rcases H.mine j l0 c hj hc' with h1 | h1
      · omega
      · exact hO h1.1
  · rcases hη with ⟨hij, hη⟩ | ⟨_, rfl⟩
    · rw [renew_ne hij] at hi
      obtain ⟨y, hy, _⟩ := Option.map_eq_some_iff.1 hi
      exact H.mine i y c hy hη
    · exact .inl H.le
  · rcases hη with ⟨_, hη⟩ | ⟨rfl, _⟩
    · exact H.bk.2 i c hi hη
    · have hi : i < L.fx := hi
      omega
  · rcases hη with ⟨_, hη⟩ | ⟨_, rfl⟩
    · exact H.nm i c hη
    · exact .inl H.le

/-- A block of one's own is frozen, or forgotten. -/
theorem Fz.rm {m : List (Nat × Loc)} {j b : Nat} (hF : Fz G η m b) : Fz G η (rmO j m) b := ⟨hF.1, fun i x hi => by
  by_cases hij : i = j
  · subst hij; rw [lkO_rmO_eq] at hi; cases hi
  · rw [lkO_rmO_ne hij] at hi; exact hF.2 i x hi⟩

theorem HS.mvDrop (j : Nat) : Mv E.gd η L h η ⟨L.nx, L.fx, rmO j L.m⟩ h fun _ => false := ⟨fun _ hc hF => ⟨hc, hF.rm, rfl⟩, .refl⟩

theorem HS.drop (H : HS E η L h) (j : Nat) : HS E η ⟨L.nx, L.fx, rmO j L.m⟩ h := by
  have M := HS.mvDrop (E := E) (η := η) (L := L) (h := h) j
  have key : ∀ i x, lkO (rmO j L.m) i = some x → lkO L.m i = some x := fun i x hi => by
    by_cases hij : i = j
    · subst hij; rw [lkO_rmO_eq] at hi; cases hi
    · rwa [lkO_rmO_ne hij] at hi
  refine ⟨⟨fun i x hi => ?_, H.own.lt, H.own.fn, H.own.inj⟩, H.gone, H.le, H.keep, fun i x c hi hη => H.mine i x c (key i x hi) hη, H.fix_mv M.kp (fun _ _ => rfl) rfl, H.rs, H.bk, H.nm⟩
  rcases H.own.loc i x (key i x hi) with ⟨b, h1, h2⟩ | h1
  · exact .inl ⟨b, h1, h2.mono M.st M.kp⟩
  · exact .inr h1

/-- Blocks for what is to be done at the function's end. -/
structure DfR (E : Env) (η : Nat → Nat → Prop) (m : List (Nat × Loc)) (h : AHeap) (ds : List Nat) : Prop where
  get : ∀ b ∈ ds, E.h.n ≤ b ∧ b < h.n ∧ Fz E.gd η m b ∧ h.get b = .deferred false
  nd : ds.Nodup

theorem DfR.mv {E : Env} {η η' : Nat → Nat → Prop} {L L' : Own} {h h' : AHeap} {p : Nat → Bool} {ds : List Nat} (D : DfR E η L.m h ds) (M : Mv E.gd η L h η' L' h' p) : DfR E η' L'.m h' ds :=
  ⟨fun b hb => let ⟨h0, h1, h2, h3⟩ := D.get b hb; let ⟨g1, g2, g3⟩ := M.st b h1 h2; ⟨h0, g1, g2, g3.trans h3⟩, D.nd⟩

/-- The slots of the frame have numbers below this one; the slots of the frames that wait have others. -/
def FB : Nat := 4096

structure RS (E : Env) (η : Nat → Nat → Prop) (ds : DS) (s : AS) : Prop where
  slots : ∀ i d, lk ds.t i = some d → ∃ v, look? (s.t ++ E.sv) i = some v ∧ RdV s.h (Fz E.gd η ds.L.m) η d v
  hs : HS E η ds.L s.h
  d : DfR E η ds.L.m s.h (s.d ++ E.dv)
  lt : ∀ i v, look? s.t i = some v → i < FB
  sv : ∀ i v, look? E.sv i = some v → FB ≤ i

theorem look_append : ∀ (a b : PT) (i : Nat), look? (a ++ b) i = (look? a i).or (look? b i)
  | [], b, i => by simp [look?]
  | (d, v) :: a, b, i => by
    simp only [List.cons_append, look?]
    cases Nat.beq i d
    · simp only [cond_false]; exact look_append a b i
    · rfl

theorem RS.own {E : Env} {η : Nat → Nat → Prop} {ds : DS} {s : AS} (R : RS E η ds s) {i : Nat} {v : Value} (hi : i < FB) (h : look? (s.t ++ E.sv) i = some v) : look? s.t i = some v := by
  rw [look_append] at h
  cases h1 : look? s.t i with
  | some x => rw [h1] at h; exact h
  | none =>
    rw [h1] at h
    have := R.sv i v h
    omega

theorem RS.wait {E : Env} {η : Nat → Nat → Prop} {ds : DS} {s : AS} (R : RS E η ds s) {i : Nat} {v : Value} (hi : FB ≤ i) (h : look? (s.t ++ E.sv) i = some v) : look? E.sv i = some v := by
  rw [look_append] at h
  cases h1 : look? s.t i with
  | some x => have := R.lt i x h1; omega
  | none => rw [h1] at h; exact h

end Go.Am

/-
  The data layer: operations with their types resolved, and what they yield over data.
-/
namespace Go.Am
open Go Go.RowKit

inductive Od where
  | t (i : Nat)
  | c (d : DV)

/-- Operations. -/
inductive DOp where
  | mv (a : Od)
  | pick (c a b : Od)
  | bin (b : BinOp) (x y : Od)
  | eqs (ts : List Ty) (neg : Bool) (x y : Od)
  | nilq (neg : Bool) (x : Od)
  | not (x : Od)
  | neg (x : Od)
  | conv (k : IntKind) (x : Od)
  | toS (x : Od)
  | toB (x : Od)
  | strC (x : Od)
  | len (x : Od)
  | lenS (x : Od)
  | binB (neg : Bool) (x y : Od)
  | lenA (n : Nat)
  | cap (x : Od)
  | mm (mx : Bool) (xs : List Od)
  | idxS (x i : Od)
  | idxA (n : Nat) (x i : Od)
  | idxP (n len : Nat) (x i : Od)
  | fldA (off n : Nat) (agg : Bool) (x : Od)
  | fld (off n : Nat) (agg : Bool) (x : Od)
  | load (n : Nat) (agg : Bool) (a : Od)
  | slc (n : Nat) (x : Od) (lo hi mx : Option Od)
  | slcS (x : Od) (lo hi : Option Od)
  | slcP (n len : Nat) (x : Od) (lo hi mx : Option Od)
  | ext (x : Od) (i : Nat)
  | build (z : List DV) (parts : List (Nat × Nat × Od))
  | mkF (f : Nat) (xs us : List Od)
  | alloc (z : List DV)
  | allocA (e : Ty) (n : Nat)
  | box (x : Od)
  | store (n : Nat) (a x : Od)
  | mkS (e : Ty) (bytes : Nat) (l c : Od)
  | bldS (e : Ty) (n : Nat) (parts : List Od)
  | app (e : Ty) (bytes : Nat) (keep : Bool) (a b : Od)
  | cpy (n : Nat) (a b : Od)
  | call (f : Nat) (xs : List Od)
  | callV (f : Od) (xs : List Od)

/-! Data as cells. -/

def flat : (t : Ty) → t.D → List DV
  | .int k, (x : Int) => [.int k x]
  | .bool, (b : Bool) => [.bool b]
  | .str, (s : ByteArray) => [.str s]
  | .unit, _ => []
  | .pair a b, (x : a.D × b.D) => flat a x.1 ++ flat b x.2
  | .sl e, (s : Sl e.D) => [.sl e s]

/-- Cells as data. -/
def unflat : (t : Ty) → List DV → Option (t.D × List DV)
  | .int k, l => match l with
    | .int k' x :: r => if k' = k then some (x, r) else none
    | _ => none
  | .bool, l => match l with
    | .bool b :: r => some (b, r)
    | .lit b :: r => some (b, r)
    | _ => none
  | .str, l => match l with
    | .str s :: r => some (s, r)
    | _ => none
  | .unit, r => some ((), r)
  | .pair a b, r => match unflat a r with
    | some (x, r) => match unflat b r with
      | some (y, r) => some ((x, y), r)
      | none => none
    | none => none
  | .sl e, l => match l with
    | .sl e' s :: r => if h : e' = e then some ((h ▸ s : Sl e.D), r) else none
    | .nils :: r => some (⟨[], some 0⟩, r)
    | _ => none

def asTy (t : Ty) (l : List DV) : Option t.D :=
  match unflat t l with
  | some (x, []) => some x
  | _ => none

def DV.cells : DV → List DV
  | .agg l => l
  | d => [d]

/-- One cell, whatever it is. -/
def DV.cell : DV → Bool
  | .agg _ | .tup _ | .any | .und => false
  | _ => true

/-- Part of a data's cells. -/
def subT : (t : Ty) → t.D → Nat → Nat → Bool → Option (Σ t : Ty, t.D)
  | .pair a b, (x : a.D × b.D), off, n, agg =>
    bif Nat.beq off 0 && Nat.beq n (Ty.pair a b).size && agg then some ⟨.pair a b, x⟩ else
    bif Nat.blt off a.size then subT a x.1 off n agg else subT b x.2 (off - a.size) n agg
  | t, x, off, n, agg => bif Nat.beq off 0 && Nat.beq n t.size && (agg == t.isAgg) then some ⟨t, x⟩ else none

def ev (t : DT) : Od → Option DV
  | .t i => lk t i
  | .c d => some d

abbrev PRes := Option Prop × DV

def dBin (b : BinOp) (x y : DV) : Option PRes :=
  match b, x, y with
  | .shl, .int k a, .int _ b => some (some (0 ≤ b), .int k (k.wrap (a * 2 ^ min b.toNat k.bits)))
  | .shr, .int k a, .int _ b => some (some (0 ≤ b), .int k (a.fdiv (2 ^ min b.toNat k.bits)))
  | b, .int k x, .int k' y => bif decide (k = k') then
    match b with
    | .add => some (none, .int k (k.wrap (x + y)))
    | .sub => some (none, .int k (k.wrap (x - y)))
    | .mul => some (none, .int k (k.wrap (x * y)))
    | .quo => some (some (y ≠ 0), .int k (k.wrap (x.tdiv y)))
    | .rem => some (some (y ≠ 0), .int k (x.tmod y))
    | .and => some (none, .int k (k.wrap (BitVec.ofInt k.bits x &&& BitVec.ofInt k.bits y).toNat))
    | .or => some (none, .int k (k.wrap (BitVec.ofInt k.bits x ||| BitVec.ofInt k.bits y).toNat))
    | .xor => some (none, .int k (k.wrap (BitVec.ofInt k.bits x ^^^ BitVec.ofInt k.bits y).toNat))
    | .eql => some (none, .bool (decide (x = y)))
    | .neq => some (none, .bool (!decide (x = y)))
    | .lss => some (none, .bool (decide (x < y)))
    | .leq => some (none, .bool (decide (x ≤ y)))
    | .gtr => some (none, .bool (decide (y < x)))
    | .geq => some (none, .bool (decide (y ≤ x)))
    | _ => none
    else none
  | .add, .str a, .str b => some (some (((a.size + b.size : Nat) : Int) ≤ 9223372036854775807), .str (a ++ b))
  | .eql, .str a, .str b => some (none, .bool (decide (a = b)))
  | .neq, .str a, .str b => some (none, .bool (!decide (a = b)))
  | _, _, _ => none

/-- Equality of plain cells. -/
def eqCell : Ty → DV → DV → Option Bool
  | .int k, .int k' x, .int k'' y => bif decide (k = k') && decide (k = k'') then some (decide (x = y)) else none
  | .bool, .bool a, .bool b => some (a == b)
  | .bool, .lit a, .bool b => some (a == b)
  | .bool, .bool a, .lit b => some (a == b)
  | .bool, .lit a, .lit b => some (a == b)
  | .str, .str a, .str b => some (decide (a = b))
  | _, _, _ => none

def eqCells : List Ty → List DV → List DV → Option Bool
  | [], [], [] => some true
  | t :: ts, a :: l, b :: r => match eqCell t a b, eqCells ts l r with
    | some p, some q => some (p && q)
    | _, _ => none
  | _, _, _ => none

def dPick (c a b : DV) : Option PRes :=
  match c with
  | .lit w => some (none, bif w then a else b)
  | .bool w =>
    match a, b with
    | .bool x, .bool y => some (none, .bool (bif w then x else y))
    | .lit x, .bool y => some (none, .bool (bif w then x else y))
    | .bool x, .lit y => some (none, .bool (bif w then x else y))
    | .lit x, .lit y => some (none, .bool (bif w then x else y))
    | _, _ => none
  | _ => none

def strAt (s : ByteArray) (i : Int) : Int := (((s.data.toList.getD i.toNat 0).toNat : Nat) : Int)

def dIdx (n : Nat) (x i : DV) : Option PRes :=
  match x, i with
  | .sl e s, .int _ i => bif Nat.beq e.size n then some (some (0 ≤ i ∧ i < s.l.length), .fptr e (s.l.getD i.toNat e.zero)) else none
  | .osl j e off len _, .int _ i => bif Nat.beq e.size n then some (some (0 ≤ i ∧ i < len), .aptr j e (off + i.toNat) 0) else none
  | _, _ => none

def dLoad (n : Nat) (agg : Bool) (m : List (Nat × Loc)) (a : DV) : Option PRes :=
  match a with
  | .bptr j off => match lkO m j with
    | some (.box cells) => bif agg then some (some (off + n ≤ cells.length), .agg ((cells.drop off).take n)) else (cells[off]?).map fun d => (none, d)
    | _ => none
  | .aptr j e i off => match lkO m j with
    | some (.arr e' xs) => if h : e' = e then
        match subT e ((h ▸ xs : List e.D).getD i e.zero) off n agg with
        | some ⟨t, x⟩ => some (some (i < (h ▸ xs : List e.D).length), bif agg then .agg (flat t x) else (flat t x).getD 0 .any)
        | none => none
      else none
    | _ => none
  | .fptr t x => match subT t x 0 n agg with
    | some ⟨t', x'⟩ => some (none, bif agg then .agg (flat t' x') else (flat t' x').getD 0 .any)
    | none => none
  | _ => none

def boolD : DV → Option Bool
  | .bool b => some b
  | .lit b => some b
  | _ => none

def lenD : DV → Option Nat
  | .sl _ s => some s.l.length
  | .osl _ _ _ len _ => some len
  | .nils => some 0
  | _ => none

def capD : DV → Option Nat
  | .sl _ s => s.cap
  | .osl _ _ _ _ c => c
  | .nils => some 0
  | _ => none

def evs (t : DT) : List Od → Option (List DV)
  | [] => some []
  | a :: l => match ev t a, evs t l with
    | some x, some r => some (x :: r)
    | _, _ => none

def dMmGo (mx : Bool) (k : IntKind) : Int → List DV → Option DV
  | x, [] => some (.int k x)
  | x, .int k' y :: r => bif decide (k = k') then dMmGo mx k (bif mx then max x y else min x y) r else none
  | _, _ => none

def dMm (mx : Bool) : List DV → Option DV
  | .int k x :: r => dMmGo mx k x r
  | _ => none

def evO (t : DT) : Option Od → Option (Option Int)
  | none => some none
  | some a => match ev t a with
    | some (.int _ i) => some (some i)
    | _ => none

/-- The bounds of a slice expression: low, high; what must hold. -/
def dSlc (n : Nat) (x : DV) (lo hi mx : Option Int) : Option PRes :=
  let l : Int := lo.getD 0
  match x with
  | .sl e s => bif Nat.beq e.size n then
      match hi, mx with
      | some h, some m => some (some (0 ≤ l ∧ l ≤ h ∧ h ≤ m ∧ h ≤ s.l.length ∧ m ≤ s.l.length), .sl e ⟨(s.l.drop l.toNat).take (h - l).toNat, some (m - l).toNat⟩)
      | some h, none => some (some (0 ≤ l ∧ l ≤ h ∧ h ≤ s.l.length), .sl e ⟨(s.l.drop l.toNat).take (h - l).toNat, none⟩)
      | none, none => some (some (0 ≤ l ∧ l ≤ s.l.length), .sl e ⟨s.l.drop l.toNat, s.cap.map (· - l.toNat)⟩)
      | _, _ => none
    else none
  | .osl j e off len cap => bif Nat.beq e.size n then
      match hi, mx with
      | some h, some m => some (some (0 ≤ l ∧ l ≤ h ∧ h ≤ m ∧ m ≤ len), .osl j e (off + l.toNat) (h - l).toNat (some (m - l).toNat))
      | some h, none => some (some (0 ≤ l ∧ l ≤ h ∧ h ≤ len), .osl j e (off + l.toNat) (h - l).toNat (cap.map (· - l.toNat)))
      | none, none => match cap with
        | none => some (some (0 ≤ l ∧ l ≤ len), .osl j e (off + l.toNat) (len - l.toNat) none)
        | some c => some (some (0 ≤ l ∧ l ≤ len), .osl j e (off + l.toNat) (len - l.toNat) (some (c - l.toNat)))
      | _, _ => none
    else none
  | .nils => match hi, mx with
      | some h, some m => some (some (l = 0 ∧ h = 0 ∧ m = 0), .nils)
      | some h, none => some (some (l = 0 ∧ h = 0), .nils)
      | none, none => some (some (l = 0), .nils)
      | _, _ => none
  | _ => none

def dSlcS (x : DV) (lo hi : Option Int) : Option PRes :=
  match x with
  | .str s => let l := lo.getD 0; let h := hi.getD s.size
    some (some (0 ≤ l ∧ l ≤ h ∧ h ≤ s.size), .str (s.extract l.toNat h.toNat))
  | _ => none

/-- Bytes of numbers. -/
def bytesOf (l : List Int) : ByteArray := ⟨(l.map fun i => UInt8.ofNat i.toNat).toArray⟩

def dToS (m : List (Nat × Loc)) (x : DV) : Option PRes :=
  match x with
  | .sl (.int .u8) s => some (none, .str (bytesOf s.l))
  | .nils => some (none, .str .empty)
  | .osl j (.int .u8) off len _ => match lkO m j with
    | some (.arr (.int .u8) (xs : List Int)) => some (some (off + len ≤ xs.length), .str (bytesOf ((xs.drop off).take len)))
    | _ => none
  | _ => none

def dFldA (off n : Nat) (agg : Bool) (x : DV) : Option PRes :=
  match x with
  | .bptr j o => some (none, .bptr j (o + off))
  | .aptr j e i o => some (none, .aptr j e i (o + off))
  | .fptr ty d => (subT ty d off n agg).map fun r => (none, .fptr r.1 r.2)
  | _ => none

def dFld (off n : Nat) (agg : Bool) (x : DV) : Option PRes :=
  match x with
  | .agg l => bif agg then some (some (off + n ≤ l.length), .agg ((l.drop off).take n)) else (l[off]?).map fun d => (none, d)
  | _ => none

def DV.cellA : DV → Option (List DV)
  | .agg l => some l
  | d => bif d.cell then some [d] else none

def setAllD (c : List DV) (i : Nat) : List DV → List DV
  | [] => c
  | v :: vs => setAllD (c.set i v) (i + 1) vs

def partsD (t : DT) : List (Nat × Nat × Od) → List DV → Option (List DV)
  | [], z => some z
  | (off, n, a) :: r, z => match ev t a with
    | some d => match d.cellA with
      | some l => bif Nat.beq l.length n && Nat.ble (off + n) z.length then partsD t r (setAllD z off l) else none
      | none => none
    | none => none

/-- Operations that leave memory alone: what must hold, and what they yield. -/
def dpure (o : DOp) (t : DT) (m : List (Nat × Loc)) : Option PRes :=
  match o with
  | .mv a => (ev t a).map fun d => (none, d)
  | .pick c a b => match ev t c, ev t a, ev t b with
    | some c, some a, some b => dPick c a b
    | _, _, _ => none
  | .bin b x y => match ev t x, ev t y with
    | some x, some y => dBin b x y
    | _, _ => none
  | .eqs ts neg x y => match ev t x, ev t y with
    | some (.agg l), some (.agg r) => (eqCells ts l r).map fun b => (none, .bool (bif neg then !b else b))
    | _, _ => none
  | .not x => match ev t x with
    | some (.bool b) => some (none, .bool (!b))
    | some (.lit b) => some (none, .lit (!b))
    | _ => none
  | .neg x => match ev t x with
    | some (.int k i) => some (none, .int k (k.wrap (0 - i)))
    | _ => none
  | .conv k x => match ev t x with
    | some (.int _ i) => some (none, .int k (k.wrap i))
    | _ => none
  | .toS x => match ev t x with
    | some x => dToS m x
    | none => none
  | .strC x => match ev t x with
    | some (.str s) => some (none, .str s)
    | _ => none
  | .len x => match ev t x with
    | some d => (lenD d).map fun (n : Nat) => (none, .int .i64 (n : Int))
    | none => none
  | .lenS x => match ev t x with
    | some (.str s) => some (none, .int .i64 s.size)
    | _ => none
  | .binB neg x y => match ev t x, ev t y with
    | some x, some y => match boolD x, boolD y with
      | some a, some b => some (none, .bool (bif neg then !(a == b) else (a == b)))
      | _, _ => none
    | _, _ => none
  | .lenA n => some (none, .int .i64 n)
  | .cap x => match ev t x with
    | some d => (capD d).map fun (n : Nat) => (none, .int .i64 (n : Int))
    | none => none
  | .mm mx xs => match evs t xs with
    | some l => (dMm mx l).map fun d => (none, d)
    | none => none
  | .idxS x i => match ev t x, ev t i with
    | some (.str s), some (.int _ i) => some (some (0 ≤ i ∧ i < s.size), .int .u8 (strAt s i))
    | _, _ => none
  | .idxA n x i => match ev t x, ev t i with
    | some x, some i => dIdx n x i
    | _, _ => none
  | .idxP n len x i => match ev t x, ev t i with
    | some (.aptr j e k 0), some (.int _ i) => bif Nat.beq e.size n then some (some (0 ≤ i ∧ i < len), .aptr j e (k + i.toNat) 0) else none
    | _, _ => none
  | .fldA off n agg x => match ev t x with
    | some x => dFldA off n agg x
    | none => none
  | .fld off n agg x => match ev t x with
    | some x => dFld off n agg x
    | _ => none
  | .load n agg a => match ev t a with
    | some a => dLoad n agg m a
    | none => none
  | .slc n x lo hi mx => match ev t x, evO t lo, evO t hi, evO t mx with
    | some x, some lo, some hi, some mx => dSlc n x lo hi mx
    | _, _, _, _ => none
  | .slcS x lo hi => match ev t x, evO t lo, evO t hi with
    | some x, some lo, some hi => dSlcS x lo hi
    | _, _, _ => none
  | .ext x i => match ev t x with
    | some (.tup l) => (l[i]?).map fun d => (none, d)
    | _ => none
  | .build z parts => (partsD t parts z).map fun l => (none, .agg l)
  | .mkF f xs us => match evs t xs, evs t us with
    | some xs, some us => some (none, .clo f xs us)
    | _, _ => none
  | _ => none

end Go.Am

/-
  The data layer: operations that leave memory alone do what is said of them.
-/
namespace Go.Am
open Go Go.RowKit

theorem ba_loop (bs : ByteArray) : ∀ n i r, bs.size - i = n → ByteArray.toList.loop bs i r = r.reverse ++ bs.data.toList.drop i := by
  intro n
  induction n with
  | zero =>
    intro i r h
    unfold ByteArray.toList.loop
    rw [if_neg (by omega), List.drop_eq_nil_of_le (by have : bs.data.size = bs.size := rfl; simp; omega)]; simp
  | succ n ih =>
    intro i r h
    unfold ByteArray.toList.loop
    rw [if_pos (by omega), ih (i + 1) _ (by omega)]
    have hi : i < bs.data.toList.length := by have : bs.data.size = bs.size := rfl; simp; omega
    rw [List.drop_eq_getElem_cons hi]
    have : bs.get! i = bs.data.toList[i] := by
      have hi' : i < bs.data.size := by simpa using hi
      show bs.data[i]! = _
      rw [getElem!_pos bs.data i hi']; simp
    simp [this]
theorem ba_toList (bs : ByteArray) : bs.toList = bs.data.toList := by
  unfold ByteArray.toList
  rw [ba_loop bs _ 0 [] rfl]; simp
theorem ba_inj {a b : ByteArray} (h : a.toList = b.toList) : a = b := by
  rw [ba_toList, ba_toList] at h
  cases a; cases b; simp at h; subst h; rfl

def resC : Value → DV → Bool
  | .bool b, .lit b' => b == b'
  | .int k n, .int k' n' => decide (k = k') && decide (n = n')
  | .string s, .str s' => decide (s = s')
  | .nilFunc, .nilF => true
  | .nilIface, .nilI => true
  | .pointer none, .nilP => true
  | .slice none 0 0, .nils => true
  | .slice none 0 0, .sl _ s => s.l.isEmpty && (s.cap == some 0)
  | _, _ => false

def resOd : Operand → Od → Bool
  | .tmp i, .t j => Nat.beq i j
  | .const v, .c d => resC v d
  | .func f, .c (.clo g [] []) => Nat.beq f g
  | _, _ => false

def resOds : List Operand → List Od → Bool
  | [], [] => true
  | a :: l, b :: r => resOd a b && resOds l r
  | _, _ => false

def resOO : Option Operand → Option Od → Bool
  | none, none => true
  | some a, some b => resOd a b
  | _, _ => false

def isSlT (P : Program) (ty n : Nat) : Bool := match P.underlying ty with
  | some (.slice e) => asize P e == some n
  | _ => false
def isSl (P : Program) (ty : Nat) : Bool := match P.underlying ty with
  | some (.slice _) => true
  | _ => false
def isStrT (P : Program) (ty : Nat) : Bool := match P.underlying ty with
  | some .string => true
  | _ => false
def isBytesT (P : Program) (ty : Nat) : Bool := match P.underlying ty with
  | some (.slice e) => match P.underlying e with
    | some (.int .u8) => true
    | _ => false
  | _ => false
def isIntK (P : Program) (ty : Nat) (k : IntKind) : Bool := match P.underlying ty with
  | some (.int k') => decide (k = k')
  | _ => false
def isBoolT (P : Program) (ty : Nat) : Bool := match P.underlying ty with
  | some .bool => true
  | _ => false
def fldT (P : Program) (ty f off n : Nat) (agg : Bool) : Bool := match P.underlying ty with
  | some (.struct fs) => match fs[f]? with
    | some fd => Nat.beq fd.offset off && (aisAgg P fd.type == some agg) && (asize P fd.type == some n) && Nat.blt 0 n
    | none => false
  | _ => false
/-- Plain fields, one cell each, in their order. -/
def plainF (P : Program) (f : Field) (i : Nat) (t : Ty) : Bool :=
  Nat.beq f.offset i && !(f.name == "_") && (match P.underlying f.type, t with | some (.int k), .int k' => decide (k = k') | some .bool, .bool => true | some .string, .str => true | _, _ => false)
def plainFields (P : Program) : Nat → List Field → List Ty → Bool
  | _, [], [] => true
  | i, f :: r, t :: ts => plainF P f i t && plainFields P (i + 1) r ts
  | _, _, _ => false
def eqsT (P : Program) (ty : Nat) (ts : List Ty) : Bool := match P.underlying ty with
  | some (.struct fs) => !(P.stoodInHeld ty) && !(P.eqGuardType P.depth ty) && plainFields P 0 fs.toList ts
  | _ => false
def placeOf (P : Program) (ty : Nat) : Option (Nat → Option (Nat × Nat)) := match P.underlying ty with
  | some (.struct fs) => (fs.toList.mapM (fun f => (P.info? f.type).map fun i => (f.offset, i.size))).map fun pl => (pl.toArray[·]?)
  | some (.array _ e) => (P.info? e).map fun ie => fun i => some (i * ie.size, ie.size)
  | _ => none
def resBuild (place : Nat → Option (Nat × Nat)) : List (Nat × Operand) → List (Nat × Nat × Od) → Bool
  | [], [] => true
  | (i, a) :: l, (off, n, x) :: r => (match place i with | some (off', n') => Nat.beq off off' && Nat.beq n n' | none => false) && resOd a x && resBuild place l r
  | _, _ => false
def resCs : List Value → List DV → Bool
  | [], [] => true
  | v :: l, d :: r => resC v d && resCs l r
  | _, _ => false
def isArrT (P : Program) (ty n len : Nat) : Bool := match P.underlying ty with
  | some (.array l e) => Nat.beq l len && (asize P e == some n)
  | _ => false

/-- Is the resolved operation that one? -/
def resOp (P : Program) : Op → DOp → Bool
  | .move a, .mv x => resOd a x
  | .assign a, .mv x => resOd a x
  | .nilCheck _, _ => false
  | .pick c a b, .pick c' a' b' => resOd c c' && resOd a a' && resOd b b'
  | .binOp op _ a b _, .bin op' x y => decide (op = op') && resOd a x && resOd b y
  | .binOp op ty a b _, .binB neg x y => decide (op = if neg then .neq else .eql) && isBoolT P ty && resOd a x && resOd b y
  | .binOp op ty a b _, .eqs ts neg x y => decide (op = if neg then .neq else .eql) && eqsT P ty ts && resOd a x && resOd b y
  | .build ty ps, .build z ps' => (match placeOf P ty, azero P ty with | some pl, some zv => resCs zv.cells.toList z && resBuild pl ps.toList ps' | _, _ => false)
  | .unOp .not _ a, .not x => resOd a x
  | .unOp .neg _ a, .neg x => resOd a x
  | .convert s d a, .conv k x => (P.underlying s).isSome && isIntK P d k && resOd a x
  | .convert s d a, .toS x => isBytesT P s && isStrT P d && resOd a x
  | .convert s d a, .strC x => isStrT P s && isStrT P d && resOd a x
  | .call { callee := .builtin .len, args, argTypes }, .len x => match args.toList, argTypes[0]? with
    | [a], some ty => isSl P ty && resOd a x
    | _, _ => false
  | .call { callee := .builtin .len, args, argTypes }, .lenS x => match args.toList, argTypes[0]? with
    | [a], some ty => isStrT P ty && resOd a x
    | _, _ => false
  | .call { callee := .builtin .cap, args, argTypes }, .cap x => match args.toList, argTypes[0]? with
    | [a], some ty => isSl P ty && resOd a x
    | _, _ => false
  | .call { callee := .builtin .min, args, .. }, .mm false xs => resOds args.toList xs
  | .call { callee := .builtin .max, args, .. }, .mm true xs => resOds args.toList xs
  | .index ty a b, .idxS x i => isStrT P ty && resOd a x && resOd b i
  | .indexAddr ty a b, .idxA n x i => isSlT P ty n && resOd a x && resOd b i
  | .indexAddr ty a b, .idxP n len x i => isArrT P ty n len && resOd a x && resOd b i
  | .fieldAddr ty a f, .fldA off n agg x => fldT P ty f off n agg && resOd a x
  | .field ty a f, .fld off n agg x => fldT P ty f off n agg && resOd a x
  | .load ty a, .load n agg x => (aisAgg P ty == some agg) && (asize P ty == some n) && resOd a x
  | .slice ty a lo hi mx, .slc n x lo' hi' mx' => isSlT P ty n && resOd a x && resOO lo lo' && resOO hi hi' && resOO mx mx'
  | .slice ty a lo hi none, .slcS x lo' hi' => isStrT P ty && resOd a x && resOO lo lo' && resOO hi hi'
  | .extract a i, .ext x j => Nat.beq i j && resOd a x
  | .makeFunc (.func f) xs us, .mkF g xs' us' => Nat.beq f g && resOds xs.toList xs' && resOds us.toList us'
  | _, _ => false

variable {P : Program} {o : Oper} {st : PT} {h : AHeap} {F : Nat → Prop} {η : Nat → Nat → Prop} {t : DT} {L : Own} {side : Option Prop} {d : DV}

def Slots (st : PT) (h : AHeap) (F : Nat → Prop) (η : Nat → Nat → Prop) (t : DT) : Prop := ∀ i d, lk t i = some d → ∃ v, look? st i = some v ∧ RdV h F η d v

/-- What an operation yields, memory being as it was. -/
def Yields (P : Program) (o : Oper) (st : PT) (h : AHeap) (F : Nat → Prop) (η : Nat → Nat → Prop) (d : DV) : Prop := ∃ v, OpP P o st h v ∧ RdV h F η d v

theorem resC_sound {v : Value} (hr : resC v d = true) : RdV h F η d v := by
  unfold resC at hr
  split at hr
  · simp at hr; subst hr; exact .lit _
  · simp at hr; obtain ⟨rfl, rfl⟩ := hr; exact .int _ _
  · simp at hr; subst hr; exact .str _
  · exact .nilF
  · exact .nilI
  · exact .nilP
  · exact .nils
  · rename_i e s
    simp at hr
    exact .sl (.inl ⟨0, rfl, by simpa using hr.1, .inl ⟨.inl rfl, .inr hr.2⟩⟩)
  · cases hr

theorem od_sound {a : Operand} {x : Od} (S : Slots st h F η t) (hr : resOd a x = true) (he : ev t x = some d) : ∃ v, pevO st a = some v ∧ RdV h F η d v := by
  unfold resOd at hr
  split at hr
  · have := Nat.eq_of_beq_eq_true hr; subst this
    exact S _ _ he
  · simp only [ev, Option.some.injEq] at he
    subst he
    exact ⟨_, rfl, resC_sound hr⟩
  · have := Nat.eq_of_beq_eq_true hr; subst this
    simp only [ev, Option.some.injEq] at he
    subst he
    exact ⟨_, rfl, .clo rfl (fun i d x h => by simp at h) rfl (fun i d x h => by simp at h)⟩
  · cases hr

theorem ods_sound (S : Slots st h F η t) : ∀ (l : List Operand) (xs : List Od) (ds : List DV), resOds l xs = true → evs t xs = some ds →
    ∃ vs, l.map (pev st) = vs ∧ l.all (kn st) = true ∧ ds.length = vs.length ∧ ∀ (i : Nat) (d : DV) (v : Value), ds[i]? = some d → vs[i]? = some v → RdV h F η d v
  | [], [], ds, _, he => by simp [evs] at he; subst he; exact ⟨[], rfl, rfl, rfl, fun i d v h => by simp at h⟩
  | a :: l, b :: r, ds, hr, he => by
    simp only [resOds, Bool.and_eq_true] at hr
    simp only [evs] at he
    split at he
    · rename_i x ds' h1 h2
      simp only [Option.some.injEq] at he
      subst he
      obtain ⟨v, g1, g2⟩ := od_sound S hr.1 h1
      obtain ⟨vs, k1, k2, k3, k4⟩ := ods_sound S l r ds' hr.2 h2
      refine ⟨v :: vs, by rw [List.map_cons, pev_of g1, k1], by rw [List.all_cons, kn_of g1, k2]; rfl, by simp [k3], fun i d w hd hw => ?_⟩
      cases i with
      | zero => simp at hd hw; subst hd; subst hw; exact g2
      | succ i => exact k4 i d w (by simpa using hd) (by simpa using hw)
    · cases he
  | [], _ :: _, _, hr, _ => by simp [resOds] at hr
  | _ :: _, [], _, hr, _ => by simp [resOds] at hr

theorem binI_sound {op : BinOp} {ty : Nat} {x y : DV} {a b : Value} (ha : RdV h F η x a) (hb : RdV h F η y b) (hd : dBin op x y = some (side, d)) (hs : ∀ p, side = some p → p) :
    ∃ v, abinOp P op ty a b = some v ∧ RdV h F η d v := by
  unfold dBin at hd
  split at hd
  · cases ha; cases hb
    simp only [Option.some.injEq, Prod.mk.injEq] at hd
    obtain ⟨rfl, rfl⟩ := hd
    have := hs _ rfl
    refine ⟨_, ?_, .int _ _⟩
    simp only [abinOp]
    rw [if_neg (by omega)]
  · cases ha; cases hb
    simp only [Option.some.injEq, Prod.mk.injEq] at hd
    obtain ⟨rfl, rfl⟩ := hd
    have := hs _ rfl
    refine ⟨_, ?_, .int _ _⟩
    simp only [abinOp]
    rw [if_neg (by omega)]
  · rename_i b1 k x k' y n1 n2
    cases ha; cases hb
    cases hk : decide (k = k') with
    | false => simp [hk] at hd
    | true =>
      have hkk := of_decide_eq_true hk
      subst hkk
      simp only [hk, cond_true] at hd
      cases op <;> simp only [Option.some.injEq, Prod.mk.injEq, reduceCtorEq] at hd
      case shl => exact (n1 rfl).elim
      case shr => exact (n2 rfl).elim
      all_goals obtain ⟨rfl, rfl⟩ := hd
      case quo => have := hs _ rfl; exact ⟨_, bQuo this, .int _ _⟩
      case rem => have := hs _ rfl; exact ⟨_, bRem this, .int _ _⟩
      case eql => exact ⟨_, bEql, .bool _⟩
      case neq => exact ⟨_, bNeq, .bool _⟩
      all_goals first
        | exact ⟨_, by simp [abinOp], .int _ _⟩
        | exact ⟨_, by simp [abinOp], .bool _⟩
        | exact ⟨_, by simp [abinOp]; rfl, .int _ _⟩
  · cases ha; cases hb
    simp only [Option.some.injEq, Prod.mk.injEq] at hd
    obtain ⟨rfl, rfl⟩ := hd
    have := hs _ rfl
    refine ⟨_, ?_, .str _⟩
    simp only [abinOp]
    rw [if_neg]
    have : IntKind.i64.max = 9223372036854775807 := by decide
    rw [this]; omega
  · rename_i p q
    cases ha; cases hb
    simp only [Option.some.injEq, Prod.mk.injEq] at hd
    obtain ⟨rfl, rfl⟩ := hd
    refine ⟨_, rfl, ?_⟩
    have : (p.toList == q.toList) = decide (p = q) := by
      by_cases e : p = q
      · subst e; simp
      · have : p.toList ≠ q.toList := fun e2 => e (ba_inj e2)
        simp [e, this]
    rw [this]; exact .bool _
  · rename_i p q
    cases ha; cases hb
    simp only [Option.some.injEq, Prod.mk.injEq] at hd
    obtain ⟨rfl, rfl⟩ := hd
    refine ⟨_, rfl, ?_⟩
    have : (p.toList == q.toList) = decide (p = q) := by
      by_cases e : p = q
      · subst e; simp
      · have : p.toList ≠ q.toList := fun e2 => e (ba_inj e2)
        simp [e, this]
    rw [this]; exact .bool _
  · cases hd


theorem asz_some {ty n : Nat} (h : (asize P ty == some n) = true) : asize P ty = some n := by simpa using h

theorem yMv {a : Operand} {x : Od} (S : Slots st h F η t) (hok : okOper P o = true) (ho : o.op = .move a ∨ o.op = .assign a) (hr : resOd a x = true) (he : ev t x = some d) : Yields P o st h F η d := by
  obtain ⟨v, h1, h2⟩ := od_sound S hr he
  rcases ho with ho | ho
  · exact ⟨v, xMove ho hok h1, h2⟩
  · exact ⟨v, xAssign ho hok h1, h2⟩

theorem yPick {c a b : Operand} {x y z : Od} {dx dy dz : DV} (S : Slots st h F η t) (hok : okOper P o = true) (ho : o.op = .pick c a b) (hc : resOd c x = true) (ha : resOd a y = true) (hb : resOd b z = true)
    (ec : ev t x = some dx) (ea : ev t y = some dy) (eb : ev t z = some dz) (hd : dPick dx dy dz = some (side, d)) : Yields P o st h F η d := by
  obtain ⟨vc, c1, c2⟩ := od_sound S hc ec
  obtain ⟨va, a1, a2⟩ := od_sound S ha ea
  obtain ⟨vb, b1, b2⟩ := od_sound S hb eb
  have key : ∀ w, vc = .bool w → OpP P o st h (bif w then va else vb) := fun w e => xPick ho hok (by rw [c1, e]) a1 b1
  unfold dPick at hd
  split at hd
  · rename_i w
    simp only [Option.some.injEq, Prod.mk.injEq] at hd
    obtain ⟨_, rfl⟩ := hd
    cases c2
    refine ⟨_, key w rfl, ?_⟩
    cases w
    · exact b2
    · exact a2
  · rename_i w
    cases c2
    have k := key w rfl
    split at hd
    all_goals first
      | (simp only [Option.some.injEq, Prod.mk.injEq] at hd
         obtain ⟨_, rfl⟩ := hd
         cases a2; cases b2
         refine ⟨_, k, ?_⟩
         cases w <;> exact .bool _)
      | cases hd
  · cases hd

theorem yNot {a : Operand} {x : Od} {ty : Nat} (S : Slots st h F η t) (hok : okOper P o = true) (ho : o.op = .unOp .not ty a) (hr : resOd a x = true) (hd : dpure (.not x) t L.m = some (side, d)) : Yields P o st h F η d := by
  simp only [dpure] at hd
  split at hd
  · rename_i b he
    obtain ⟨v, h1, h2⟩ := od_sound S hr he
    cases h2
    simp only [Option.some.injEq, Prod.mk.injEq] at hd
    obtain ⟨_, rfl⟩ := hd
    exact ⟨_, xNot ho hok h1, .bool _⟩
  · rename_i b he
    obtain ⟨v, h1, h2⟩ := od_sound S hr he
    cases h2
    simp only [Option.some.injEq, Prod.mk.injEq] at hd
    obtain ⟨_, rfl⟩ := hd
    exact ⟨_, xNot ho hok h1, .lit _⟩
  · cases hd

theorem yNeg {a : Operand} {x : Od} {ty : Nat} (S : Slots st h F η t) (hok : okOper P o = true) (ho : o.op = .unOp .neg ty a) (hr : resOd a x = true) (hd : dpure (.neg x) t L.m = some (side, d)) : Yields P o st h F η d := by
  simp only [dpure] at hd
  split at hd
  · rename_i k i he
    obtain ⟨v, h1, h2⟩ := od_sound S hr he
    cases h2
    simp only [Option.some.injEq, Prod.mk.injEq] at hd
    obtain ⟨_, rfl⟩ := hd
    exact ⟨_, .pure hok (knows1 (by rw [ho]; rfl) h1) (by unfold apure; rw [ho]; simp only [pev_of h1, aunOp]), .int _ _⟩
  · cases hd

theorem yConv {a : Operand} {x : Od} {s ty : Nat} {k : IntKind} (S : Slots st h F η t) (hok : okOper P o = true) (ho : o.op = .convert s ty a) (hs : (P.underlying s).isSome = true) (hk : isIntK P ty k = true) (hr : resOd a x = true)
    (hd : dpure (.conv k x) t L.m = some (side, d)) : Yields P o st h F η d := by
  simp only [dpure] at hd
  split at hd
  · rename_i k' i he
    obtain ⟨v, h1, h2⟩ := od_sound S hr he
    cases h2
    simp only [Option.some.injEq, Prod.mk.injEq] at hd
    obtain ⟨_, rfl⟩ := hd
    obtain ⟨sd, hsd⟩ := Option.isSome_iff_exists.1 hs
    unfold isIntK at hk
    split at hk
    · rename_i k2 hu
      have := of_decide_eq_true hk
      subst this
      exact ⟨_, xConv ho hok hsd hu h1, .int _ _⟩
    · cases hk
  · cases hd

theorem lenD_sound {x : DV} {v : Value} {n ty : Nat} (hv : RdV h F η x v) (hn : lenD x = some n) (ht : isSl P ty = true) : alen P ty v = some (.int .i64 n) := by
  unfold isSl at ht
  split at ht
  · rename_i e hu
    unfold lenD at hn
    split at hn
    · cases hn
      cases hv with | sl hs =>
      rcases hs with ⟨c, rfl, h2, _⟩ | ⟨b, o, c, cs, rfl, _⟩
      · rw [h2]; simp [alen, hu]
      · simp [alen, hu]
    · cases hn
      cases hv <;> simp [alen, hu]
    · cases hn
      cases hv; simp [alen, hu]
    · cases hn
  · cases ht

theorem nilC_cap {c n ty e : Nat} {cap : Option Nat} {b : Option Addr} {l : Nat} (hc : NilC c cap) (hn : cap = some n) (hu : P.underlying ty = some (.slice e)) : acap P ty (.slice b l c) = some (.int .i64 n) := by
  rcases hc with ⟨h1, h2⟩ | ⟨_, h2⟩
  · rw [hn] at h2
    rcases h2 with h2 | h2 <;> cases h2
    rcases h1 with rfl | rfl
    · simp [acap, hu, big]
    · simp [acap, hu, big]
  · rw [hn] at h2; cases h2

theorem capD_sound {x : DV} {v : Value} {n ty : Nat} (hv : RdV h F η x v) (hn : capD x = some n) (ht : isSl P ty = true) : acap P ty v = some (.int .i64 n) := by
  unfold isSl at ht
  split at ht
  · rename_i e hu
    unfold capD at hn
    split at hn
    · cases hv with | sl hs =>
      rcases hs with ⟨c, rfl, h2, h3⟩ | ⟨b, o, c, cs, rfl, _, _, _, _, h6, _⟩
      · exact nilC_cap h3 hn hu
      · obtain ⟨rfl, g⟩ := h6 n hn
        exact capSlice hu g
    · cases hv with
      | osl c nn oo h0 h1 h2 h3 h4 h5 h8 h6 =>
        obtain ⟨rfl, g⟩ := h4 n hn
        exact capSlice hu g
      | onil hc ho => exact nilC_cap hc hn hu
    · cases hn
      cases hv; simp [acap, hu, big]
    · cases hn
  · cases ht

theorem idx_sound {x i : DV} {a b : Value} {n ty : Nat} (ha : RdV h F η x a) (hb : RdV h F η i b) (ht : isSlT P ty n = true) (hd : dIdx n x i = some (side, d)) (hs : ∀ p, side = some p → p) :
    ∃ v, aindexAddr P ty a b = some v ∧ RdV h F η d v := by
  unfold isSlT at ht
  split at ht
  · rename_i e hu
    have hz := asz_some ht
    unfold dIdx at hd
    split at hd
    · rename_i e' s k i
      cases hn : Nat.beq e'.size n with
      | false => simp [hn] at hd
      | true =>
        have hn := Nat.eq_of_beq_eq_true hn
        subst hn
        simp at hd
        obtain ⟨rfl, rfl⟩ := hd
        have hi := hs _ rfl
        cases hb
        cases ha with | sl hsl =>
        rcases hsl with ⟨c, rfl, h2, h3⟩ | ⟨b, o, c, cs, rfl, g2, g3, g4, g5, g6, gz, g7, g8⟩
        · rw [h2] at hi; simp at hi; omega
        · refine ⟨.pointer (some ⟨b, o + i.toNat * e'.size, none⟩), by simp only [aindexAddr, hu, hz, Option.bind_eq_bind, Option.bind_some]; rw [if_pos hi], ?_⟩
          have hin : i.toNat < s.l.length := by omega
          have hx : s.l[i.toNat]? = some (s.l.getD i.toNat e'.zero) := by simp [hin]
          obtain ⟨k1, k2⟩ := Cells.get (fun c x hc => RdC.length (h := h) (F := F) e' c x hc) g8 hx
          refine .fptr (cs := (cs.drop (i.toNat * e'.size)).take e'.size) g2 g3 ?_ k1
          unfold areadN at g7 ⊢
          cases hrow : (h.get b).row with
          | none => rw [hrow] at g7; cases g7
          | some row =>
            rw [hrow] at g7
            simp only [Option.bind_some] at g7 ⊢
            unfold takeAt at g7 ⊢
            split at g7
            · simp only [Option.some.injEq] at g7
              subst g7
              have hle : i.toNat * e'.size + e'.size ≤ s.l.length * e'.size := by
                have := Nat.mul_le_mul_right e'.size hin
                rwa [Nat.succ_mul] at this
              rw [if_pos (by omega)]
              congr 1
              rw [List.drop_take, List.take_take, List.drop_drop]
              congr 1
              omega
            · cases g7
    · rename_i j e' off len cap k i
      cases hn : Nat.beq e'.size n with
      | false => simp [hn] at hd
      | true =>
        have hn := Nat.eq_of_beq_eq_true hn
        subst hn
        simp at hd
        obtain ⟨rfl, rfl⟩ := hd
        have hi := hs _ rfl
        cases hb
        cases ha with
        | osl c nn oo h0 h1 h2 h3 h4 h5 h8 h6 =>
          have : oo = off * e'.size := h5 (by omega)
          subst this
          refine ⟨_, by simp only [aindexAddr, hu, hz, Option.bind_eq_bind, Option.bind_some]; rw [if_pos hi], ?_⟩
          have := RdV.aptr (h := h) (F := F) e' (off + i.toNat) 0 h0
          rw [Nat.add_mul] at this
          simpa using this
        | onil hc ho => simp at hi; omega
    · cases hd
  · cases ht

end Go.Am

/-
  The data layer: reading memory.
-/
namespace Go.Am
open Go Go.RowKit

variable {P : Program} {o : Oper} {st : PT} {h : AHeap} {G F : Nat → Prop} {η : Nat → Nat → Prop} {t : DT} {L : Own} {side : Option Prop} {d : DV}

theorem takeAt_sub {c cs : List Value} {i m off n : Nat} (hc : takeAt c i m = some cs) (hle : off + n ≤ m) : takeAt c (i + off) n = some ((cs.drop off).take n) := by
  unfold takeAt at hc ⊢
  split at hc
  · simp only [Option.some.injEq] at hc
    subst hc
    rw [if_pos (by omega)]
    congr 1
    rw [List.drop_take, List.take_take, List.drop_drop]
    congr 1
    omega
  · cases hc

theorem areadN_sub {b i m off n : Nat} {cs : List Value} (hc : areadN h b i m = some cs) (hle : off + n ≤ m) : areadN h b (i + off) n = some ((cs.drop off).take n) := by
  unfold areadN at hc ⊢
  cases hrow : (h.get b).row with
  | none => rw [hrow] at hc; cases hc
  | some row => rw [hrow] at hc; exact takeAt_sub hc hle

theorem takeAt_len {c cs : List Value} {i m : Nat} (hc : takeAt c i m = some cs) : cs.length = m := by
  unfold takeAt at hc
  split at hc
  · simp only [Option.some.injEq] at hc; subst hc; simp; omega
  · cases hc

theorem areadN_len {b i m : Nat} {cs : List Value} (hc : areadN h b i m = some cs) : cs.length = m := by
  unfold areadN at hc
  cases hrow : (h.get b).row with
  | none => rw [hrow] at hc; cases hc
  | some row => rw [hrow] at hc; exact takeAt_len hc

theorem aread_of {b i : Nat} {v : Value} (hc : areadN h b i 1 = some [v]) : aread h b i = some v := by
  unfold areadN at hc
  unfold aread
  cases hrow : (h.get b).row with
  | none => rw [hrow] at hc; cases hc
  | some row =>
    rw [hrow] at hc
    simp only [Option.bind_some] at hc ⊢
    unfold takeAt at hc
    split at hc
    · rename_i hle
      simp only [Option.some.injEq] at hc
      have hi : i < row.length := by omega
      rw [List.drop_eq_getElem_cons hi, List.take_succ_cons, List.take_zero] at hc
      have := (List.cons.inj hc).1
      rw [← this]
      simp [hi]
    · cases hc

/-- Pointwise. -/
def PV (h : AHeap) (F : Nat → Prop) (η : Nat → Nat → Prop) (l : List DV) (cs : List Value) : Prop :=
  l.length = cs.length ∧ ∀ (i : Nat) (d : DV) (x : Value), l[i]? = some d → cs[i]? = some x → RdV h F η d x

theorem PV.nil : PV h F η [] [] := ⟨rfl, fun i d x hd => by simp at hd⟩
theorem PV.one {v : Value} (hv : RdV h F η d v) : PV h F η [d] [v] := ⟨rfl, fun i d x hd hx => by cases i <;> simp_all⟩
theorem PV.append {l r : List DV} {cs ds : List Value} (a : PV h F η l cs) (b : PV h F η r ds) : PV h F η (l ++ r) (cs ++ ds) := by
  refine ⟨by simp [a.1, b.1], fun i d x hd hx => ?_⟩
  by_cases hi : i < l.length
  · rw [List.getElem?_append_left hi] at hd
    rw [List.getElem?_append_left (by rw [← a.1]; exact hi)] at hx
    exact a.2 i d x hd hx
  · rw [List.getElem?_append_right (by omega)] at hd
    rw [List.getElem?_append_right (by rw [← a.1]; omega), ← a.1] at hx
    exact b.2 _ d x hd hx
theorem PV.sub {l : List DV} {cs : List Value} (a : PV h F η l cs) (off n : Nat) : PV h F η ((l.drop off).take n) ((cs.drop off).take n) := by
  refine ⟨by simp [a.1], fun i d x hd hx => ?_⟩
  rw [List.getElem?_take] at hd hx
  split at hd
  · rename_i hi
    rw [if_pos hi] at hx
    rw [List.getElem?_drop] at hd hx
    exact a.2 _ d x hd hx
  · cases hd
theorem PV.agg {l : List DV} {cs : List Value} (a : PV h F η l cs) : RdV h F η (.agg l) (.agg cs.toArray) :=
  .agg (by simpa using a.1) fun i d x hd hx => a.2 i d x hd (by simpa using hx)

theorem flat_sound : ∀ (t : Ty) (cs : List Value) (x : t.D), RdC h F t cs x → PV h F η (flat t x) cs
  | .int _, _, _, e => by rw [show _ = _ from e]; exact .one (.int _ _)
  | .bool, _, _, e => by rw [show _ = _ from e]; exact .one (.bool _)
  | .str, _, _, e => by rw [show _ = _ from e]; exact .one (.str _)
  | .unit, _, _, e => by rw [show _ = _ from e]; exact .nil
  | .pair a b, _, _, ⟨c1, c2, e, h1, h2⟩ => by rw [e]; exact (flat_sound a _ _ h1).append (flat_sound b _ _ h2)
  | .sl _, _, _, ⟨v, e, hs⟩ => by rw [e]; exact .one (.sl hs)

theorem subT_sound : ∀ (t : Ty) (cs : List Value) (x : t.D) (off n : Nat) (agg : Bool) (r : Σ t : Ty, t.D), RdC h F t cs x → subT t x off n agg = some r →
    RdC h F r.1 ((cs.drop off).take n) r.2 ∧ r.1.size = n ∧ r.1.isAgg = agg ∧ off + n ≤ t.size := by
  have base : ∀ (t : Ty) (cs : List Value) (x : t.D) (off n : Nat) (agg : Bool) (r : Σ t : Ty, t.D), RdC h F t cs x →
      (bif Nat.beq off 0 && Nat.beq n t.size && (agg == t.isAgg) then some (⟨t, x⟩ : Σ t : Ty, t.D) else none) = some r →
      RdC h F r.1 ((cs.drop off).take n) r.2 ∧ r.1.size = n ∧ r.1.isAgg = agg ∧ off + n ≤ t.size := by
    intro t cs x off n agg r hc hs
    cases hb : (Nat.beq off 0 && Nat.beq n t.size && (agg == t.isAgg)) with
    | false => simp [hb] at hs
    | true =>
      simp only [hb, cond_true, Option.some.injEq] at hs
      subst hs
      simp only [Bool.and_eq_true, beq_iff_eq] at hb
      obtain ⟨⟨h1, h2⟩, h3⟩ := hb
      have h1 := Nat.eq_of_beq_eq_true h1
      have h2 := Nat.eq_of_beq_eq_true h2
      subst h1; subst h2; subst h3
      have := RdC.length t cs x hc
      refine ⟨by rw [List.drop_zero, ← this, List.take_length]; exact hc, rfl, rfl, by omega⟩
  intro t
  induction t with
  | pair a b iha ihb =>
    intro cs x off n agg r hc hs
    simp only [subT] at hs
    cases hb : (Nat.beq off 0 && Nat.beq n (Ty.pair a b).size && agg) with
    | true =>
      simp only [hb, cond_true, Option.some.injEq] at hs
      subst hs
      simp only [Bool.and_eq_true] at hb
      obtain ⟨⟨h1, h2⟩, rfl⟩ := hb
      have h1 := Nat.eq_of_beq_eq_true h1
      have h2 := Nat.eq_of_beq_eq_true h2
      subst h1; subst h2
      have := RdC.length _ cs x hc
      refine ⟨by rw [List.drop_zero, ← this, List.take_length]; exact hc, rfl, rfl, by omega⟩
    | false =>
      simp only [hb, cond_false] at hs
      obtain ⟨c1, c2, e, k1, k2⟩ := hc
      have l1 := RdC.length a c1 _ k1
      have l2 := RdC.length b c2 _ k2
      subst e
      cases hl : Nat.blt off a.size with
      | true =>
        simp only [hl, cond_true] at hs
        obtain ⟨g1, g2, g3, g4⟩ := iha c1 _ off n agg r k1 hs
        refine ⟨?_, g2, g3, by simp only [Ty.size]; omega⟩
        rw [List.drop_append_of_le_length (by omega), List.take_append_of_le_length (by simp; omega)]
        exact g1
      | false =>
        have hl' : ¬ off < a.size := fun hlt => by
          have : Nat.blt off a.size = true := by rw [Nat.blt_eq]; exact hlt
          rw [hl] at this; cases this
        simp only [hl, cond_false] at hs
        obtain ⟨g1, g2, g3, g4⟩ := ihb c2 _ (off - a.size) n agg r k2 hs
        refine ⟨?_, g2, g3, by simp only [Ty.size]; omega⟩
        rw [show off = c1.length + (off - a.size) from by omega, List.drop_length_add_append]
        exact g1
  | int k => exact fun cs x off n agg r hc hs => base _ cs x off n agg r hc hs
  | bool => exact fun cs x off n agg r hc hs => base _ cs x off n agg r hc hs
  | str => exact fun cs x off n agg r hc hs => base _ cs x off n agg r hc hs
  | unit => exact fun cs x off n agg r hc hs => base _ cs x off n agg r hc hs
  | sl e _ => exact fun cs x off n agg r hc hs => base _ cs x off n agg r hc hs

theorem size_one {t : Ty} (h : t.isAgg = false) : t.size = 1 := by cases t <;> simp_all [Ty.isAgg, Ty.size]

/-- One cell. -/
theorem flat_one {t : Ty} {x : t.D} {cs : List Value} (ha : t.isAgg = false) (hc : RdC h F t cs x) : ∃ v, cs = [v] ∧ RdV h F η ((flat t x).getD 0 .any) v := by
  have hp := flat_sound (η := η) t cs x hc
  have hl := RdC.length t cs x hc
  rw [size_one ha] at hl
  match cs, hl, hp with
  | [v], _, hp =>
    refine ⟨v, rfl, ?_⟩
    have h1 := hp.1
    match hf : flat t x, h1 with
    | [d], _ => exact hp.2 0 d v (by rw [hf]; rfl) rfl

theorem own_box (O : OwnR h G η L) {j b : Nat} {cells : List DV} (hj : lkO L.m j = some (.box cells)) (hb : η j b) : ∃ c e, h.get b = .cells c e ∧ PV h (Fz G η L.m) η cells c := by
  rcases O.loc j _ hj with ⟨b', h1, h2⟩ | ⟨⟨_, _, h1, _⟩, _⟩
  · have := O.fn j b b' hb h1
    subst this
    generalize ho : h.get b = oo at h2
    cases h2 with
    | box hl hv => exact ⟨_, _, rfl, hl, hv⟩
  · cases h1

theorem own_arr (O : OwnR h G η L) {j b : Nat} {e : Ty} {xs : List e.D} (hj : lkO L.m j = some (.arr e xs)) (hb : η j b) :
    ∃ cs junk z, h.get b = .cells (cs ++ junk) z ∧ Cells (RdC h (Fz G η L.m) e) cs xs := by
  rcases O.loc j _ hj with ⟨b', h1, h2⟩ | ⟨_, _, h1⟩
  · have := O.fn j b b' hb h1
    subst this
    generalize ho : h.get b = oo at h2
    cases h2 with
    | arr hc => exact ⟨_, _, _, rfl, hc⟩
  · exact (h1 b hb).elim

theorem load_sound {n ty : Nat} {agg : Bool} {a : DV} {v : Value} (O : OwnR h G η L) (hv : RdV h (Fz G η L.m) η a v) (ht : aisAgg P ty = some agg) (hz : asize P ty = some n)
    (hd : dLoad n agg L.m a = some (side, d)) (hs : ∀ p, side = some p → p) : ∃ w, aload P h ty v = some w ∧ RdV h (Fz G η L.m) η d w := by
  have fin : ∀ (b i : Nat) (cs : List Value) (r : Σ t : Ty, t.D), areadN h b i n = some cs → RdC h (Fz G η L.m) r.1 cs r.2 → r.1.size = n → r.1.isAgg = agg →
      ∃ w, aload P h ty (.pointer (some ⟨b, i, none⟩)) = some w ∧ RdV h (Fz G η L.m) η (bif agg then .agg (flat r.1 r.2) else (flat r.1 r.2).getD 0 .any) w := by
    intro b i cs r hr hc hsz hag
    unfold aload
    simp only [ht, hz, Option.bind_eq_bind, Option.bind_some]
    cases agg with
    | true =>
      simp only [if_true, hr, Option.bind_some]
      exact ⟨_, rfl, (flat_sound _ _ _ hc).agg⟩
    | false =>
      obtain ⟨w, rfl, hw⟩ := flat_one (η := η) hag hc
      rw [← hsz, size_one hag] at hr
      exact ⟨w, by simpa using aread_of hr, hw⟩
  unfold dLoad at hd
  split at hd
  · rename_i j off
    cases hv with | bptr off hb =>
    split at hd
    · rename_i cells hj
      obtain ⟨c, e, hg, hp⟩ := own_box O hj hb
      unfold aload
      simp only [ht, hz, Option.bind_eq_bind, Option.bind_some]
      cases agg with
      | true =>
        simp only [cond_true, Option.some.injEq, Prod.mk.injEq] at hd
        obtain ⟨rfl, rfl⟩ := hd
        have hle := hs _ rfl
        rw [hp.1] at hle
        refine ⟨.agg ((c.drop off).take n).toArray, ?_, (hp.sub off n).agg⟩
        simp only [if_true]
        have : ∀ b, h.get b = .cells c e → areadN h b off n = some ((c.drop off).take n) := fun b hg => by unfold areadN; rw [hg]; simp only [AObj.row, Option.bind_some]; unfold takeAt; rw [if_pos hle]
        rw [this _ hg]; rfl
      | false =>
        simp only [cond_false, Option.map_eq_some_iff] at hd
        obtain ⟨d', hd', he⟩ := hd
        simp only [Prod.mk.injEq] at he
        obtain ⟨rfl, rfl⟩ := he
        have hi : off < c.length := by rw [← hp.1]; exact (List.getElem?_eq_some_iff.1 hd').1
        refine ⟨c[off], ?_, hp.2 off d' c[off] hd' (by simp [hi])⟩
        simp only [Bool.false_eq_true, if_false]
        unfold aread; rw [hg]; simp [AObj.row, hi]
    · cases hd
  · rename_i j e i off
    cases hv with | aptr _ _ _ hb =>
    split at hd
    · rename_i e' xs hj
      split at hd
      · rename_i hee
        subst hee
        simp only at hd
        split at hd
        · rename_i ty' x' hsub
          simp only [Option.some.injEq, Prod.mk.injEq] at hd
          obtain ⟨rfl, rfl⟩ := hd
          have hi := hs _ rfl
          · obtain ⟨cs, junk, z, hg, hc⟩ := own_arr O hj hb
            have hx : xs[i]? = some (xs.getD i e'.zero) := by simp [hi]
            obtain ⟨k1, k2⟩ := Cells.get (fun c x hc => RdC.length (h := h) (F := Fz G η L.m) e' c x hc) hc hx
            obtain ⟨s1, s2, s3, s4⟩ := subT_sound e' _ _ off n agg _ k1 hsub
            refine fin _ _ _ ⟨ty', x'⟩ ?_ s1 s2 s3
            have hr : ∀ b, h.get b = .cells (cs ++ junk) z → areadN h b (i * e'.size) e'.size = some ((cs.drop (i * e'.size)).take e'.size) := by
              intro b hg
              unfold areadN; rw [hg]; simp only [AObj.row, Option.bind_some]; unfold takeAt
              rw [if_pos (by simp; omega), List.drop_append_of_le_length (by omega), List.take_append_of_le_length (by simp; omega)]
            exact areadN_sub (hr _ hg) s4
        · cases hd
      · cases hd
    · cases hd
  · rename_i ty0 x0
    cases hv with | fptr g1 g2 g3 g4 =>
    split at hd
    · rename_i ty' x' hsub
      simp only [Option.some.injEq, Prod.mk.injEq] at hd
      obtain ⟨rfl, rfl⟩ := hd
      obtain ⟨s1, s2, s3, s4⟩ := subT_sound ty0 _ _ 0 n agg _ g4 hsub
      refine fin _ _ _ ⟨ty', x'⟩ ?_ s1 s2 s3
      have := areadN_sub g3 s4
      simpa using this
    · cases hd
  · cases hd

end Go.Am

/-
  The data layer: slices of slices.
-/
namespace Go.Am
open Go Go.RowKit

variable {P : Program} {o : Oper} {st : PT} {h : AHeap} {F : Nat → Prop} {η : Nat → Nat → Prop} {t : DT} {L : Own} {side : Option Prop} {d : DV}

inductive OI : Option Int → Option Value → Prop where
  | none : OI none none
  | some (k : IntKind) (i : Int) : OI (some i) (some (.int k i))

theorem evO_sound {a : Option Operand} {x : Option Od} {i : Option Int} (S : Slots st h F η t) (hr : resOO a x = true) (he : evO t x = some i) : ∃ v, pevOO st a = some v ∧ OI i v := by
  unfold resOO at hr
  split at hr
  · simp only [evO, Option.some.injEq] at he; subst he; exact ⟨_, rfl, .none⟩
  · simp only [evO] at he
    split at he
    · rename_i k i' hev
      simp only [Option.some.injEq] at he
      subst he
      obtain ⟨v, h1, h2⟩ := od_sound S hr hev
      cases h2
      exact ⟨some (.int k i'), by simp [pevOO, h1], .some _ _⟩
    · cases he
  · cases hr

theorem lo_bound {lo : Option Int} {v : Option Value} (hl : OI lo v) {m : Nat} (h1 : 0 ≤ lo.getD 0) (h2 : lo.getD 0 ≤ m) : abound v 0 m = some (lo.getD 0).toNat := by
  cases hl with
  | none => simp [abound]
  | some k i => simp only [Option.getD_some] at h1 h2 ⊢; simp only [abound, h1, h2, and_self, if_true]

theorem int_bound {k : IntKind} {i : Int} {d m : Nat} (h1 : 0 ≤ i) (h2 : i ≤ m) : abound (some (.int k i)) d m = some i.toNat := by simp only [abound, h1, h2, and_self, if_true]
theorem no_bound {m : Nat} : abound none m m = some m := by simp [abound]

/-- The bounds of a slice of a known capacity, or of one that is not asked beyond its length. -/
structure Bds (len c l hh m : Nat) (lo hi mx : Option Value) : Prop where
  bm : abound mx c c = some m
  bh : ahi hi mx len m = some hh
  bl : abound lo 0 hh = some l
  le1 : l ≤ hh
  le2 : hh ≤ m
  le3 : m ≤ c

theorem bds3 {lo : Option Int} {v : Option Value} {k k' : IntKind} {hi m : Int} {len c : Nat} (hl : OI lo v) (h1 : 0 ≤ lo.getD 0) (h2 : lo.getD 0 ≤ hi) (h3 : hi ≤ m) (h4 : m ≤ c) :
    Bds len c (lo.getD 0).toNat hi.toNat m.toNat v (some (.int k hi)) (some (.int k' m)) :=
  ⟨int_bound (by omega) h4, by simp only [ahi]; exact int_bound (by omega) (by omega), lo_bound hl h1 (by omega), by omega, by omega, by omega⟩
theorem bds2 {lo : Option Int} {v : Option Value} {k : IntKind} {hi : Int} {len c : Nat} (hl : OI lo v) (h1 : 0 ≤ lo.getD 0) (h2 : lo.getD 0 ≤ hi) (h3 : hi ≤ c) :
    Bds len c (lo.getD 0).toNat hi.toNat c v (some (.int k hi)) none :=
  ⟨no_bound, by simp only [ahi]; exact int_bound (by omega) (by omega), lo_bound hl h1 (by omega), by omega, by omega, by omega⟩
theorem bds1 {lo : Option Int} {v : Option Value} {len c : Nat} (hl : OI lo v) (h1 : 0 ≤ lo.getD 0) (h2 : lo.getD 0 ≤ len) (h3 : len ≤ c) :
    Bds len c (lo.getD 0).toNat len c v none none :=
  ⟨no_bound, by simp only [ahi], lo_bound hl h1 h2, by omega, by omega, by omega⟩

theorem aslice_known {ty e size b o len c l hh m : Nat} {lo hi mx : Option Value} (hu : P.underlying ty = some (.slice e)) (hz : asize P e = some size) (hc : c < big) (B : Bds len c l hh m lo hi mx) :
    aslice P h ty (.slice (some ⟨b, o, none⟩) len c) lo hi mx = some (.slice (some ⟨b, if m = l then o else o + l * size, none⟩) (hh - l) (m - l)) := by
  unfold aslice
  simp only [hu, hz, hc, B.bm, B.bh, B.bl, Option.bind_eq_bind, Option.bind_some, if_true]

theorem aslice_nil {ty e size c l hh m : Nat} {lo hi mx : Option Value} (hu : P.underlying ty = some (.slice e)) (hz : asize P e = some size) (hc : c < big) (B : Bds 0 c l hh m lo hi mx) :
    aslice P h ty (.slice none 0 c) lo hi mx = some (.slice none (hh - l) (m - l)) := by
  unfold aslice
  simp only [hu, hz, hc, B.bm, B.bh, B.bl, Option.bind_eq_bind, Option.bind_some, if_true]

theorem big_pos : 0 < big := by decide

theorem aslice_void {ty e size l hh m : Nat} {lo hi mx : Option Value} (hu : P.underlying ty = some (.slice e)) (hz : asize P e = some size) (B : Bds 0 0 l hh m lo hi mx) :
    aslice P h ty (.slice none 0 big) lo hi mx = some (.slice none 0 (if mx.isSome then big + 1 else big)) := by
  unfold aslice
  have hb := big_pos
  simp only [hu, hz, Nat.lt_irrefl, if_false, hb, and_self, if_true, B.bm, B.bh, B.bl, Option.bind_eq_bind, Option.bind_some]

theorem aslice_void0 {ty e size l hh m : Nat} {lo hi mx : Option Value} (hu : P.underlying ty = some (.slice e)) (hz : asize P e = some size) (B : Bds 0 0 l hh m lo hi mx) :
    aslice P h ty (.slice none 0 (big + 1)) lo hi mx = some (.slice none 0 (big + 1)) := by
  unfold aslice
  have h1 : ¬ big + 1 < big := by omega
  have h2 : ¬ (big + 1 = big ∧ 0 < big) := by omega
  simp only [hu, hz, h1, h2, if_false, and_self, if_true, B.bm, B.bh, B.bl, Option.bind_eq_bind, Option.bind_some]

theorem aslice_open3 {ty e size b o len l hh m : Nat} {lo hi mx : Option Value} (hu : P.underlying ty = some (.slice e)) (hz : asize P e = some size) (hlen : len < big) (hmx : mx.isSome = true) (B : Bds len len l hh m lo hi mx) :
    aslice P h ty (.slice (some ⟨b, o, none⟩) len big) lo hi mx = some (.slice (some ⟨b, if m = l then o else o + l * size, none⟩) (hh - l) (m - l)) := by
  unfold aslice
  simp only [hu, hz, Nat.lt_irrefl, if_false, hlen, and_self, if_true, B.bm, B.bh, B.bl, Option.bind_eq_bind, Option.bind_some, hmx]

theorem aslice_open {ty e size b o len l hh m : Nat} {lo hi : Option Value} (hu : P.underlying ty = some (.slice e)) (hz : asize P e = some size) (hlen : len < big) (he : eszOf h b = some size) (B : Bds len len l hh m lo hi none) :
    aslice P h ty (.slice (some ⟨b, o, none⟩) len big) lo hi none = some (if l = len ∧ l ≠ 0 then .slice none 0 big else .slice (some ⟨b, o + l * size, none⟩) (hh - l) big) := by
  unfold aslice
  simp only [hu, hz, Nat.lt_irrefl, if_false, hlen, and_self, if_true, B.bm, B.bh, B.bl, Option.bind_eq_bind, Option.bind_some, Option.isSome_none, Bool.false_eq_true]
  have h1 := B.le1; have h2 := B.le2; have h3 := B.le3
  by_cases h0 : l = 0
  · subst h0; simp
  · by_cases hl : l < len
    · simp [h0, hl, he]; omega
    · have : l = len := by omega
      subst this
      simp [h0]

theorem Cells.part {e : Ty} {b o l k : Nat} {cs : List Value} {xs : List e.D} (hc : Cells (RdC h F e) cs xs) (hr : areadN h b o (xs.length * e.size) = some cs) (hlk : l + k ≤ xs.length) :
    ∃ cs', areadN h b (o + l * e.size) (k * e.size) = some cs' ∧ Cells (RdC h F e) cs' ((xs.drop l).take k) := by
  have hL : ∀ c x, RdC h F e c x → c.length = e.size := fun c x => RdC.length e c x
  refine ⟨(cs.drop (l * e.size)).take (k * e.size), areadN_sub hr ?_, ?_⟩
  · rw [← Nat.add_mul]; exact Nat.mul_le_mul_right _ hlk
  · exact (Cells.split hL _ _ k (Cells.split hL xs cs l hc (by omega)).2 (by simp; omega)).1


/-- A slice without a place. -/
theorem nil_part {ty e size c l hh m : Nat} {lo hi mx : Option Value} {cap cap' : Option Nat} (hc : NilC c cap) (hu : P.underlying ty = some (.slice e)) (hz : asize P e = some size)
    (B : Bds 0 0 l hh m lo hi mx) (hm : mx.isSome = true → cap' = some 0) (hn : mx.isSome = false → cap' = cap.map (· - l) ∨ cap' = none) :
    ∃ c', aslice P h ty (.slice none 0 c) lo hi mx = some (.slice none 0 c') ∧ NilC c' cap' := by
  have e3 := B.le3; have e2 := B.le2; have e1 := B.le1
  have hl0 : l = 0 := by omega
  subst hl0
  have key : (cap = none ∨ cap = some 0) → cap' = none ∨ cap' = some 0 := fun hq => by
    cases hms : mx.isSome with
    | true => exact .inr (hm hms)
    | false =>
      rcases hn hms with q | q
      · rcases hq with hq | hq <;> rw [q, hq] <;> simp
      · exact .inl q
  rcases hc with ⟨h1, h2⟩ | ⟨rfl, h2⟩
  · rcases h1 with rfl | rfl
    · have := aslice_nil (h := h) hu hz big_pos B
      rw [show hh - 0 = 0 from by omega, show m - 0 = 0 from by omega] at this
      exact ⟨0, this, .inl ⟨.inl rfl, key h2⟩⟩
    · exact ⟨big + 1, aslice_void0 hu hz B, .inl ⟨.inr rfl, key h2⟩⟩
  · refine ⟨_, aslice_void hu hz B, ?_⟩
    cases hms : mx.isSome with
    | true => exact .inl ⟨.inr rfl, .inr (hm hms)⟩
    | false =>
      refine .inr ⟨rfl, ?_⟩
      rcases hn hms with q | q
      · rw [q, h2]; rfl
      · exact q

/-- A part of a frozen slice. -/
theorem SlV.part {e : Ty} {s : Sl e.D} {v : Value} {ty ee : Nat} {l hh m : Nat} {lo hi mx : Option Value} (hs : SlV h F e.size (RdC h F e) s v) (hu : P.underlying ty = some (.slice ee)) (hz : asize P ee = some e.size)
    (cap : Option Nat) (l1 : l ≤ hh) (l2 : hh ≤ s.l.length)
    (hB : ∀ c, s.l.length ≤ c → Bds s.l.length c l hh (if mx.isSome then m else c) lo hi mx) (hm : mx.isSome = true → m ≤ s.l.length ∧ cap = some (m - l)) (hn : mx.isSome = false → cap = s.cap.map (· - l) ∨ cap = none) :
    ∃ w, aslice P h ty v lo hi mx = some w ∧ RdV h F η (.sl e ⟨(s.l.drop l).take (hh - l), cap⟩) w := by
  rcases hs with ⟨c, rfl, h2, h3⟩ | ⟨b, o, c, cs, rfl, g2, g3, g4, g5, g6, gz, g7, g8⟩
  · have hnil : s.l.length = 0 := by rw [h2]; rfl
    have B : Bds 0 0 l hh (if mx.isSome then m else 0) lo hi mx := by have := hB 0 (by omega); rwa [hnil] at this
    obtain ⟨c', k1, k2⟩ := nil_part (h := h) (cap' := cap) h3 hu hz B (fun q => by obtain ⟨q1, q2⟩ := hm q; rw [q2]; congr 1; omega) hn
    refine ⟨_, k1, .sl (.inl ⟨c', rfl, by rw [h2]; simp, k2⟩)⟩
  · have fin : ∀ c', (c' = (if mx.isSome then m else c) - l ∧ c < big) ∨ (mx.isSome = true ∧ c' = m - l) → hh ≤ (if mx.isSome then m else c) →
        RdV h F η (.sl e ⟨(s.l.drop l).take (hh - l), cap⟩) (.slice (some ⟨b, if (if mx.isSome then m else c) = l then o else o + l * e.size, none⟩) (hh - l) c') := by
      intro c' hc' hle
      have hc2 : c' = (if mx.isSome then m else c) - l := by
        rcases hc' with ⟨q, _⟩ | ⟨q1, q2⟩
        · exact q
        · rw [q2, if_pos q1]
      have hcb : c' < big := by
        rcases hc' with ⟨q, hcb⟩ | ⟨q1, q2⟩
        · cases hms : mx.isSome with
          | true => rw [hms] at q; simp only [if_true] at q; have := (hm hms).1; omega
          | false => rw [hms] at q; simp only [Bool.false_eq_true, if_false] at q; omega
        · have := (hm q1).1; omega
      have hlen : ((s.l.drop l).take (hh - l)).length = hh - l := by simp; omega
      obtain ⟨cs', r1, r2⟩ := Cells.part (l := l) (k := hh - l) g8 g7 (by omega)
      refine .sl (.inr ⟨b, _, c', cs', by rw [hlen], g2, g3, by rw [hlen]; omega, by rw [hlen]; omega, fun k hk => ⟨?_, ?_⟩, fun hn => absurd hcb hn, ?_, r2⟩)
      · have hk : cap = some k := hk
        cases hms : mx.isSome with
        | true =>
          have := (hm hms).2; rw [hk] at this; cases this
          rw [hc2, hms]; rfl
        | false =>
          rw [hms] at hc2
          simp only [Bool.false_eq_true, if_false] at hc2
          rcases hn hms with q | q
          · rw [hk] at q
            cases hsc : s.cap with
            | none => rw [hsc] at q; cases q
            | some k0 => rw [hsc] at q; simp at q; have := (g6 k0 hsc).1; omega
          · rw [hk] at q; cases q
      · have hk : cap = some k := hk
        cases hms : mx.isSome with
        | true => have := (hm hms).2; rw [hk] at this; cases this; have := (hm hms).1; omega
        | false =>
          rcases hn hms with q | q
          · rw [hk] at q
            cases hsc : s.cap with
            | none => rw [hsc] at q; cases q
            | some k0 => rw [hsc] at q; simp at q; have := (g6 k0 hsc).2; omega
          · rw [hk] at q; cases q
      · rw [hlen]
        by_cases hml : (if mx.isSome then m else c) = l
        · rw [if_pos hml]
          have h0 : hh - l = 0 := by omega
          rw [h0] at r1 ⊢
          have := areadN_sub (n := 0) (off := 0) g7 (by omega)
          have e0 : cs' = [] := List.eq_nil_of_length_eq_zero (by have := areadN_len r1; simpa using this)
          rw [e0]; simpa using this
        · rw [if_neg hml]; exact r1
    by_cases hc : c < big
    · exact ⟨_, aslice_known hu hz hc (hB c g4), fin _ (.inl ⟨rfl, hc⟩) (hB c g4).le2⟩
    · obtain ⟨rfl, hesz⟩ := gz hc
      have B := hB s.l.length (Nat.le_refl _)
      cases hms : mx.isSome with
      | true =>
        rw [hms] at B
        simp only [if_true] at B
        have := fin (m - l) (.inr ⟨hms, rfl⟩) (by rw [hms]; exact B.le2)
        rw [hms] at this
        simp only [if_true] at this
        exact ⟨_, aslice_open3 hu hz g5 hms B, this⟩
      | false =>
        have hmx : mx = none := by cases mx <;> simp_all
        subst hmx
        simp only [Option.isSome_none, Bool.false_eq_true, if_false] at B
        refine ⟨_, aslice_open hu hz g5 hesz B, ?_⟩
        have hsc : s.cap = none := by
          cases hsc : s.cap with
          | none => rfl
          | some k0 => have := g6 k0 hsc; omega
        have hcap : cap = none := by
          rcases hn rfl with q | q
          · rw [q, hsc]; rfl
          · exact q
        by_cases hv : l = s.l.length ∧ l ≠ 0
        · rw [if_pos hv]
          exact .sl (.inl ⟨big, rfl, by simp; omega, .inr ⟨rfl, hcap⟩⟩)
        · rw [if_neg hv]
          have hlen : ((s.l.drop l).take (hh - l)).length = hh - l := by simp; omega
          obtain ⟨cs', r1, r2⟩ := Cells.part (l := l) (k := hh - l) g8 g7 (by omega)
          refine .sl (.inr ⟨b, _, big, cs', by rw [hlen], g2, g3, by rw [hlen]; omega, by rw [hlen]; omega, fun k hk => (by have hk : cap = some k := hk; rw [hcap] at hk; cases hk), fun _ => ⟨rfl, hesz⟩, ?_, r2⟩)
          rw [hlen]; exact r1

/-- A part of a slice of one's own. -/
theorem osl_part {e : Ty} {v : Value} {j off len ty ee : Nat} {cap0 : Option Nat} {l hh m : Nat} {lo hi mx : Option Value} (hs : RdV h F η (.osl j e off len cap0) v) (hu : P.underlying ty = some (.slice ee)) (hz : asize P ee = some e.size)
    (cap : Option Nat) (l1 : l ≤ hh) (l2 : hh ≤ len)
    (hB : ∀ c, len ≤ c → Bds len c l hh (if mx.isSome then m else c) lo hi mx) (hm : mx.isSome = true → m ≤ len ∧ cap = some (m - l)) (hn : mx.isSome = false → cap = cap0.map (· - l) ∨ cap = none) :
    ∃ w, aslice P h ty v lo hi mx = some w ∧ RdV h F η (.osl j e (off + l) (hh - l) cap) w := by
  cases hs with
  | @onil _ _ _ _ c hc ho =>
    have B : Bds 0 0 l hh (if mx.isSome then m else 0) lo hi mx := hB 0 (by omega)
    have h0 : hh - l = 0 := by omega
    have h00 : (if mx.isSome then m else 0) - l = 0 := by have := B.le3; omega
    have hcap : (cap0 = none ∨ cap0 = some 0) → cap = none ∨ cap = some 0 := by
      intro hc
      cases hms : mx.isSome with
      | true => obtain ⟨q1, q2⟩ := hm hms; rw [q2]; right; congr 1; omega
      | false =>
        rcases hn hms with q | q
        · rcases hc with hc | hc <;> rw [q, hc] <;> simp
        · exact .inl q
    rw [h0]
    rcases hc with ⟨hc | hc, hq⟩ | ⟨hc, hq⟩
    · subst hc
      have k1 := aslice_nil (h := h) hu hz big_pos B
      rw [h0, h00] at k1
      exact ⟨_, k1, .onil0 (hcap hq)⟩
    · subst hc
      exact ⟨_, aslice_void0 hu hz B, .onil (.inl ⟨.inr rfl, hcap hq⟩) (fun _ => by have := ho (by omega); omega)⟩
    · subst hc
      refine ⟨_, aslice_void hu hz B, ?_⟩
      have ho := ho (by have := big_pos; omega)
      cases hms : mx.isSome with
      | true => exact .onil (.inl ⟨.inr rfl, hcap (.inl hq)⟩) (fun _ => by omega)
      | false =>
        refine .onil (.inr ⟨rfl, ?_⟩) (fun _ => by omega)
        rcases hn hms with q | q
        · rw [q, hq]; rfl
        · exact q
  | @osl _ b _ _ _ _ c n o h0 h1 h2 h3 h4 h5 h8 h6 =>
    have fin : ∀ c', (c' = (if mx.isSome then m else c) - l ∧ c < big) ∨ (mx.isSome = true ∧ c' = m - l ∧ ¬ c < big) → hh ≤ (if mx.isSome then m else c) →
        RdV h F η (.osl j e (off + l) (hh - l) cap) (.slice (some ⟨b, if (if mx.isSome then m else c) = l then o else o + l * e.size, none⟩) (hh - l) c') := by
      intro c' hc' hle
      have hc2 : c' = (if mx.isSome then m else c) - l := by
        rcases hc' with ⟨q, _⟩ | ⟨q1, q2, _⟩
        · exact q
        · rw [q2, if_pos q1]
      have hcb : c' < big := by
        rcases hc' with ⟨q, hcb⟩ | ⟨q1, q2, _⟩
        · cases hms : mx.isSome with
          | true => rw [hms] at q; simp only [if_true] at q; have := (hm hms).1; omega
          | false => rw [hms] at q; simp only [Bool.false_eq_true, if_false] at q; omega
        · have := (hm q1).1; omega
      -- what is read up to the capacity lies in the block
      have hroom : o + (if mx.isSome then m else c) * e.size ≤ n := by
        rcases hc' with ⟨q, hcb⟩ | ⟨q1, q2, hcb⟩
        · have := h8 hcb
          have hle2 : (if mx.isSome then m else c) ≤ c := by
            cases hms : mx.isSome with
            | true => have := (hm hms).1; simp; omega
            | false => simp
          have := Nat.mul_le_mul_right e.size hle2
          omega
        · have := (h6 hcb).2.2
          have hle2 : (if mx.isSome then m else c) ≤ len := by rw [if_pos q1]; exact (hm q1).1
          have := Nat.mul_le_mul_right e.size hle2
          omega
      refine .osl c' n _ h0 h1 (by omega) (by omega) (fun k hk => ⟨?_, ?_⟩) (fun hc0 => ?_) (fun _ => ?_) (fun hq => absurd hcb hq)
      · cases hms : mx.isSome with
        | true =>
          have := (hm hms).2; rw [hk] at this; cases this
          rw [hc2, hms]; rfl
        | false =>
          rw [hms] at hc2
          simp only [Bool.false_eq_true, if_false] at hc2
          rcases hn hms with q | q
          · rw [hk] at q
            cases hsc : cap0 with
            | none => rw [hsc] at q; cases q
            | some k0 => rw [hsc] at q; simp at q; have := (h4 k0 hsc).1; omega
          · rw [hk] at q; cases q
      · cases hms : mx.isSome with
        | true => have := (hm hms).2; rw [hk] at this; cases this; have := (hm hms).1; omega
        | false =>
          rcases hn hms with q | q
          · rw [hk] at q
            cases hsc : cap0 with
            | none => rw [hsc] at q; cases q
            | some k0 => rw [hsc] at q; simp at q; have := (h4 k0 hsc).2; omega
          · rw [hk] at q; cases q
      · rw [if_neg (by omega)]
        have : c ≠ 0 := by
          intro hc0'
          have : (if mx.isSome then m else c) ≤ 0 := by
            cases hms : mx.isSome with
            | true => have := (hm hms).1; simp; omega
            | false => simp [hc0']
          omega
        rw [h5 this, Nat.add_mul]
      · by_cases hml : (if mx.isSome then m else c) = l
        · rw [if_pos hml, hc2, hml, Nat.sub_self, Nat.zero_mul]
          omega
        · rw [if_neg hml, hc2, Nat.sub_mul]
          have : l * e.size ≤ (if mx.isSome then m else c) * e.size := Nat.mul_le_mul_right _ (by omega)
          omega
    by_cases hc : c < big
    · exact ⟨_, aslice_known hu hz hc (hB c h2), fin _ (.inl ⟨rfl, hc⟩) (hB c h2).le2⟩
    · obtain ⟨rfl, hesz, hlen⟩ := h6 hc
      have B := hB len (Nat.le_refl _)
      cases hms : mx.isSome with
      | true =>
        rw [hms] at B
        simp only [if_true] at B
        have := fin (m - l) (.inr ⟨hms, rfl, hc⟩) (by rw [hms]; exact B.le2)
        rw [hms] at this
        simp only [if_true] at this
        exact ⟨_, aslice_open3 hu hz h3 hms B, this⟩
      | false =>
        have hmx : mx = none := by cases mx <;> simp_all
        subst hmx
        simp only [Option.isSome_none, Bool.false_eq_true, if_false] at B
        refine ⟨_, aslice_open hu hz h3 hesz B, ?_⟩
        have hsc : cap0 = none := by
          cases hsc : cap0 with
          | none => rfl
          | some k0 => have := h4 k0 hsc; omega
        have hcap : cap = none := by
          rcases hn rfl with q | q
          · rw [q, hsc]; rfl
          · exact q
        by_cases hv : l = len ∧ l ≠ 0
        · rw [if_pos hv]
          have : hh - l = 0 := by omega
          rw [this]
          exact .onil (.inr ⟨rfl, hcap⟩) (fun _ => by omega)
        · rw [if_neg hv]
          have hbp := big_pos
          refine .osl big n _ h0 h1 (by omega) (by omega) (fun k hk => (by rw [hcap] at hk; cases hk)) (fun _ => by rw [h5 (by omega), Nat.add_mul]) (fun hq => absurd hq (Nat.lt_irrefl _)) (fun _ => ⟨rfl, hesz, ?_⟩)
          rw [Nat.add_assoc, ← Nat.add_mul]
          have : (l + (hh - l)) * e.size ≤ len * e.size := Nat.mul_le_mul_right _ (by omega)
          omega

theorem slc_sound {n ty : Nat} {x : DV} {v : Value} {lo hi mx : Option Int} {l r m : Option Value} (hv : RdV h F η x v) (ht : isSlT P ty n = true) (hl : OI lo l) (hr : OI hi r) (hm : OI mx m)
    (hd : dSlc n x lo hi mx = some (side, d)) (hs : ∀ p, side = some p → p) : ∃ w, aslice P h ty v l r m = some w ∧ RdV h F η d w := by
  unfold isSlT at ht
  split at ht
  rotate_left
  · cases ht
  rename_i ee hu
  have hz := asz_some ht
  unfold dSlc at hd
  simp only at hd
  split at hd
  · rename_i e s
    cases hn : Nat.beq e.size n with
    | false => simp [hn] at hd
    | true =>
    have hn := Nat.eq_of_beq_eq_true hn
    subst hn
    simp only [Nat.beq_refl, cond_true] at hd
    cases hv with | sl hsl =>
    split at hd
    · rename_i h2 m2
      simp only [Option.some.injEq, Prod.mk.injEq] at hd
      obtain ⟨rfl, rfl⟩ := hd
      obtain ⟨q1, q2, q3, q4, q5⟩ := hs _ rfl
      cases hr with | some kr _ =>
      cases hm with | some km _ =>
      have := hsl.part (η := η) (l := (lo.getD 0).toNat) (hh := h2.toNat) (m := m2.toNat) (lo := l) (hi := some (.int kr h2)) (mx := some (.int km m2)) hu hz (some (m2 - lo.getD 0).toNat) (by omega) (by omega)
        (fun c hc => by simp only [Option.isSome_some, if_true]; exact bds3 hl q1 q2 q3 (by omega)) (fun _ => ⟨by omega, by congr 1; omega⟩) (fun q => by simp at q)
      rw [show h2.toNat - (lo.getD 0).toNat = (h2 - lo.getD 0).toNat from by omega] at this
      exact this
    · rename_i h2
      simp only [Option.some.injEq, Prod.mk.injEq] at hd
      obtain ⟨rfl, rfl⟩ := hd
      obtain ⟨q1, q2, q3⟩ := hs _ rfl
      cases hr with | some kr _ =>
      cases hm
      have := hsl.part (η := η) (l := (lo.getD 0).toNat) (hh := h2.toNat) (m := 0) (lo := l) (hi := some (.int kr h2)) (mx := none) hu hz none (by omega) (by omega)
        (fun c hc => by simp only [Option.isSome_none, Bool.false_eq_true, if_false]; exact bds2 hl q1 q2 (by omega)) (fun q => by simp at q) (fun _ => .inr rfl)
      rw [show h2.toNat - (lo.getD 0).toNat = (h2 - lo.getD 0).toNat from by omega] at this
      exact this
    · simp only [Option.some.injEq, Prod.mk.injEq] at hd
      obtain ⟨rfl, rfl⟩ := hd
      obtain ⟨q1, q2⟩ := hs _ rfl
      cases hr; cases hm
      have := hsl.part (η := η) (l := (lo.getD 0).toNat) (hh := s.l.length) (m := 0) (lo := l) (hi := none) (mx := none) hu hz (s.cap.map (· - (lo.getD 0).toNat)) (by omega) (by omega)
        (fun c hc => by simp only [Option.isSome_none, Bool.false_eq_true, if_false]; exact bds1 hl q1 q2 hc) (fun q => by simp at q) (fun _ => .inl rfl)
      rw [List.take_of_length_le (by simp)] at this
      exact this
    · cases hd
  · rename_i j e off len cap
    cases hn : Nat.beq e.size n with
    | false => simp [hn] at hd
    | true =>
    have hn := Nat.eq_of_beq_eq_true hn
    subst hn
    simp only [Nat.beq_refl, cond_true] at hd
    split at hd
    · rename_i h2 m2
      simp only [Option.some.injEq, Prod.mk.injEq] at hd
      obtain ⟨rfl, rfl⟩ := hd
      obtain ⟨q1, q2, q3, q4⟩ := hs _ rfl
      cases hr with | some kr _ =>
      cases hm with | some km _ =>
      have := osl_part (l := (lo.getD 0).toNat) (hh := h2.toNat) (m := m2.toNat) (lo := l) (hi := some (.int kr h2)) (mx := some (.int km m2)) hv hu hz (some (m2 - lo.getD 0).toNat) (by omega) (by omega)
        (fun c hc => by simp only [Option.isSome_some, if_true]; exact bds3 hl q1 q2 q3 (by omega)) (fun _ => ⟨by omega, by congr 1; omega⟩) (fun q => by simp at q)
      rw [show h2.toNat - (lo.getD 0).toNat = (h2 - lo.getD 0).toNat from by omega] at this
      exact this
    · rename_i h2
      simp only [Option.some.injEq, Prod.mk.injEq] at hd
      obtain ⟨rfl, rfl⟩ := hd
      obtain ⟨q1, q2, q4⟩ := hs _ rfl
      cases hr with | some kr _ =>
      cases hm
      have := osl_part (l := (lo.getD 0).toNat) (hh := h2.toNat) (m := 0) (lo := l) (hi := some (.int kr h2)) (mx := none) hv hu hz (cap.map (· - (lo.getD 0).toNat)) (by omega) (by omega)
        (fun c hc => by simp only [Option.isSome_none, Bool.false_eq_true, if_false]; exact bds2 hl q1 q2 (by omega)) (fun q => by simp at q) (fun _ => .inl rfl)
      rw [show h2.toNat - (lo.getD 0).toNat = (h2 - lo.getD 0).toNat from by omega] at this
      exact this
    · cases hr; cases hm
      cases cap with
      | none =>
        simp only [Option.some.injEq, Prod.mk.injEq] at hd
        obtain ⟨rfl, rfl⟩ := hd
        obtain ⟨q1, q2⟩ := hs _ rfl
        exact osl_part (l := (lo.getD 0).toNat) (hh := len) (m := 0) (lo := l) (hi := none) (mx := none) hv hu hz none (by omega) (by omega)
          (fun c hc => by simp only [Option.isSome_none, Bool.false_eq_true, if_false]; exact bds1 hl q1 q2 hc) (fun q => by simp at q) (fun _ => .inl rfl)
      | some c0 =>
        simp only [Option.some.injEq, Prod.mk.injEq] at hd
        obtain ⟨rfl, rfl⟩ := hd
        obtain ⟨q1, q2⟩ := hs _ rfl
        exact osl_part (l := (lo.getD 0).toNat) (hh := len) (m := 0) (lo := l) (hi := none) (mx := none) hv hu hz (some (c0 - (lo.getD 0).toNat)) (by omega) (by omega)
          (fun c hc => by simp only [Option.isSome_none, Bool.false_eq_true, if_false]; exact bds1 hl q1 q2 hc) (fun q => by simp at q) (fun _ => .inl rfl)
    · cases hd
  · cases hv
    have fin : ∀ (hh : Nat) (m2 : Nat), Bds 0 0 0 hh m2 l r m → d = .nils → ∃ w, aslice P h ty (.slice none 0 0) l r m = some w ∧ RdV h F η d w := by
      intro hh m2 B hd
      have := aslice_nil (h := h) hu hz big_pos B
      have e1 := B.le1; have e2 := B.le2; have e3 := B.le3
      rw [show hh - 0 = 0 from by omega, show m2 - 0 = 0 from by omega] at this
      exact ⟨_, this, by rw [hd]; exact .nils⟩
    split at hd
    · rename_i h2 m2
      simp only [Option.some.injEq, Prod.mk.injEq] at hd
      obtain ⟨rfl, rfl⟩ := hd
      obtain ⟨q1, q2, q3⟩ := hs _ rfl
      cases hr with | some kr _ =>
      cases hm with | some km _ =>
      have B := bds3 (len := 0) (c := 0) (k := kr) (k' := km) hl (hi := h2) (m := m2) (by omega) (by omega) (by omega) (by omega)
      rw [q1] at B
      exact fin _ _ B rfl
    · rename_i h2
      simp only [Option.some.injEq, Prod.mk.injEq] at hd
      obtain ⟨rfl, rfl⟩ := hd
      obtain ⟨q1, q2⟩ := hs _ rfl
      cases hr with | some kr _ =>
      cases hm
      have B := bds2 (len := 0) (c := 0) (k := kr) hl (hi := h2) (by omega) (by omega) (by omega)
      rw [q1] at B
      exact fin _ _ B rfl
    · simp only [Option.some.injEq, Prod.mk.injEq] at hd
      obtain ⟨rfl, rfl⟩ := hd
      have q1 := hs _ rfl
      cases hr; cases hm
      have B := bds1 (len := 0) (c := 0) hl (by omega) (by omega) (by omega)
      rw [q1] at B
      exact fin _ _ B rfl
    · cases hd
  · cases hd

end Go.Am

/-
  The data layer: every operation that leaves memory alone.
-/
namespace Go.Am
open Go Go.RowKit

variable {P : Program} {o : Oper} {st : PT} {h : AHeap} {G F : Nat → Prop} {η : Nat → Nat → Prop} {t : DT} {L : Own} {side : Option Prop} {d : DV}

theorem slcS_sound {ty : Nat} {x : DV} {v : Value} {lo hi : Option Int} {l r : Option Value} (hv : RdV h F η x v) (ht : isStrT P ty = true) (hl : OI lo l) (hr : OI hi r)
    (hd : dSlcS x lo hi = some (side, d)) (hs : ∀ p, side = some p → p) : ∃ w, aslice P h ty v l r none = some w ∧ RdV h F η d w := by
  unfold isStrT at ht
  split at ht
  rotate_left
  · cases ht
  rename_i hu
  unfold dSlcS at hd
  split at hd
  rotate_left
  · cases hd
  rename_i s
  simp only [Option.some.injEq, Prod.mk.injEq] at hd
  obtain ⟨rfl, rfl⟩ := hd
  obtain ⟨q1, q2, q3⟩ := hs _ rfl
  cases hv
  have hh : ahi r none s.size s.size = some (hi.getD (s.size : Int)).toNat := by
    cases hr with
    | none => simp [ahi]
    | some k i => simp only [Option.getD_some] at q2 q3 ⊢; simp only [ahi]; exact int_bound (by omega) q3
  have hb : abound l 0 (hi.getD (s.size : Int)).toNat = some (lo.getD 0).toNat := lo_bound hl q1 (by omega)
  refine ⟨_, ?_, .str _⟩
  unfold aslice
  simp only [hu, hh, hb, Option.isSome_none, Bool.false_eq_true, if_false, Option.bind_eq_bind, Option.bind_some, Option.pure_def]

theorem fldA_sound {ty f off n : Nat} {agg : Bool} {x : DV} {v : Value} (hv : RdV h F η x v) (ht : fldT P ty f off n agg = true)
    (hd : dFldA off n agg x = some (side, d)) : ∃ w, afieldAddr P ty v f = some w ∧ RdV h F η d w := by
  unfold fldT at ht
  split at ht
  rotate_left
  · cases ht
  rename_i fs hu
  split at ht
  rotate_left
  · cases ht
  rename_i fd hf
  simp only [Bool.and_eq_true, beq_iff_eq] at ht
  obtain ⟨⟨⟨h1, h2⟩, h3⟩, h4⟩ := ht
  have h1 := Nat.eq_of_beq_eq_true h1
  have h4 : n ≠ 0 := by have : 0 < n := by simpa [Nat.blt_eq] using h4
                        omega
  have key : ∀ b i, afieldAddr P ty (.pointer (some ⟨b, i, none⟩)) f = some (.pointer (some ⟨b, i + off, none⟩)) := by
    intro b i
    simp only [afieldAddr, hu, hf, h3, Option.bind_eq_bind, Option.bind_some, h1, if_neg h4]
  unfold dFldA at hd
  split at hd
  · simp only [Option.some.injEq, Prod.mk.injEq] at hd
    obtain ⟨_, rfl⟩ := hd
    cases hv with | bptr _ hb => exact ⟨_, key _ _, .bptr _ hb⟩
  · simp only [Option.some.injEq, Prod.mk.injEq] at hd
    obtain ⟨_, rfl⟩ := hd
    cases hv with | aptr _ _ _ hb => exact ⟨_, key _ _, by rw [Nat.add_assoc]; exact .aptr _ _ _ hb⟩
  · simp only [Option.map_eq_some_iff, Prod.mk.injEq] at hd
    obtain ⟨r, hr, _, rfl⟩ := hd
    cases hv with | fptr g1 g2 g3 g4 =>
    obtain ⟨s1, s2, s3, s4⟩ := subT_sound _ _ _ off n agg _ g4 hr
    exact ⟨_, key _ _, .fptr g1 g2 (by rw [s2]; exact areadN_sub g3 s4) s1⟩
  · cases hd

theorem fld_sound {ty f off n : Nat} {agg : Bool} {l : List DV} {v : Value} (hv : RdV h F η (.agg l) v) (ht : fldT P ty f off n agg = true)
    (hd : dFld off n agg (.agg l) = some (side, d)) (hs : ∀ p, side = some p → p) : ∃ w, afield P ty v f = some w ∧ RdV h F η d w := by
  unfold fldT at ht
  split at ht
  rotate_left
  · cases ht
  rename_i fs hu
  split at ht
  rotate_left
  · cases ht
  rename_i fd hf
  simp only [Bool.and_eq_true, beq_iff_eq] at ht
  obtain ⟨⟨⟨h1, h2⟩, h3⟩, h4⟩ := ht
  have h1 := Nat.eq_of_beq_eq_true h1
  simp only [dFld] at hd
  cases hv with | @agg _ xs hl hp =>
  simp only [afield, hu, hf, Option.bind_eq_bind, Option.bind_some, apart, h2, h3, h1]
  cases agg with
  | true =>
    simp only [cond_true, Option.some.injEq, Prod.mk.injEq] at hd
    obtain ⟨rfl, rfl⟩ := hd
    have hle := hs _ rfl
    simp only [if_true]
    refine ⟨_, rfl, ?_⟩
    have hpv : PV h F η l xs.toList := ⟨by simpa using hl, fun i d x hd hx => hp i d x hd (by simpa using hx)⟩
    have := (hpv.sub off n).agg
    have e : ((xs.toList.drop off).take n).toArray = xs.extract off (off + n) := by
      apply Array.toList_inj.1
      simp [List.extract_eq_take_drop]
    rwa [e] at this
  | false =>
    simp only [cond_false, Option.map_eq_some_iff, Prod.mk.injEq] at hd
    obtain ⟨d', hd', _, rfl⟩ := hd
    have hi : off < xs.size := by rw [← hl]; exact (List.getElem?_eq_some_iff.1 hd').1
    exact ⟨xs[off], by simp [hi], hp off d' xs[off] hd' (by simp [hi])⟩

theorem idxP_sound {ty n len j k : Nat} {e : Ty} {kd : IntKind} {i : Int} {v w : Value} (hv : RdV h F η (.aptr j e k 0) v) (hw : RdV h F η (.int kd i) w) (ht : isArrT P ty n len = true) (he : e.size = n) (hi : 0 ≤ i ∧ i < len) :
    ∃ u, aindexAddr P ty v w = some u ∧ RdV h F η (.aptr j e (k + i.toNat) 0) u := by
  unfold isArrT at ht
  split at ht
  · rename_i l ee hu
    simp only [Bool.and_eq_true, beq_iff_eq] at ht
    have h1 := Nat.eq_of_beq_eq_true ht.1
    subst h1
    cases hw
    cases hv with | aptr _ _ _ hb =>
    refine ⟨_, by simp only [aindexAddr, hu, ht.2, Option.bind_eq_bind, Option.bind_some]; rw [if_pos hi], ?_⟩
    have := RdV.aptr (h := h) (F := F) e (k + i.toNat) 0 hb
    rw [Nat.add_mul] at this
    subst he
    simpa using this
  · cases ht

theorem bytes_ints : ∀ (l : List Int), toBytes (l.map (Value.int .u8)) = some (l.map fun i => UInt8.ofNat i.toNat)
  | [] => rfl
  | x :: l => by simp [toBytes, bytes_ints l]

theorem cells_ints {k : IntKind} : ∀ (l : List Int) (cs : List Value), Cells (fun c (x : Int) => RdC h F (.int k) c x) cs l → cs = l.map (Value.int k)
  | [], _, e => e
  | x :: l, _, ⟨c1, c2, e, h1, h2⟩ => by rw [e, show c1 = _ from h1, cells_ints l c2 h2]; rfl

theorem toS_sound {s ty : Nat} {a : Operand} {x : DV} {v : Value} (O : OwnR h G η L) (hok : okOper P o = true) (ho : o.op = .convert s ty a) (ha : pevO st a = some v) (hv : RdV h (Fz G η L.m) η x v) (hb : isBytesT P s = true) (ht : isStrT P ty = true)
    (hd : dToS L.m x = some (side, d)) (hs : ∀ p, side = some p → p) : Yields P o st h (Fz G η L.m) η d := by
  unfold isStrT at ht
  split at ht
  rotate_left
  · cases ht
  rename_i hu
  unfold isBytesT at hb
  split at hb
  rotate_left
  · cases hb
  rename_i e hse
  split at hb
  rotate_left
  · cases hb
  rename_i he
  have key : ∀ w, (∀ q, v ≠ .string q) → aconvert P h s ty v = some (w, h) → OpP P o st h w := by
    intro w hq hc
    refine ⟨OpX.eff hok (knows1 (by rw [ho]; rfl) ha) ?_ ?_, fun q => by simp [pureOp, isLoad, ho] at q⟩
    · unfold apure; rw [ho]; simp only [pev_of ha, hse, hu]
      split
      all_goals first
        | rfl
        | exact absurd rfl (hq _)
        | (exfalso; simp_all)
    · unfold aeff; rw [ho]; simp only [pev_of ha, hc]; rfl
  have alive : ∀ (b o' : Nat) (n c : Nat) (l : List Int), v = .slice (some ⟨b, o', none⟩) n c → areadN h b o' n = some (l.map (Value.int .u8)) → Yields P o st h (Fz G η L.m) η (.str (bytesOf l)) := by
    rintro b o' n c l rfl hr
    refine ⟨_, key _ (fun q hq => by cases hq) ?_, .str _⟩
    unfold aconvert
    simp only [hse, hu, he, hr, bytes_ints, Option.bind_eq_bind, Option.bind_some, bytesOf]
  have nil : ∀ c, v = .slice none 0 c → Yields P o st h (Fz G η L.m) η (.str .empty) := by
    rintro c rfl
    refine ⟨_, key _ (fun q hq => by cases hq) ?_, .str _⟩
    unfold aconvert
    simp only [hse, hu, he]
  unfold dToS at hd
  split at hd
  · rename_i sl
    simp only [Option.some.injEq, Prod.mk.injEq] at hd
    obtain ⟨_, rfl⟩ := hd
    cases hv with | sl hsl =>
    rcases hsl with ⟨c, h1, h2, _⟩ | ⟨b, o', c, cs, h1, _, _, _, _, _, _, h7, h8⟩
    · have : bytesOf sl.l = .empty := by rw [h2]; rfl
      rw [this]
      exact nil c h1
    · have hcs := cells_ints _ _ h8
      rw [hcs] at h7
      exact alive b o' _ c _ h1 (by simpa [Ty.size] using h7)
  · simp only [Option.some.injEq, Prod.mk.injEq] at hd
    obtain ⟨_, rfl⟩ := hd
    cases hv
    exact nil 0 rfl
  · rename_i j off len cap
    split at hd
    · rename_i xs hj
      simp only [Option.some.injEq, Prod.mk.injEq] at hd
      obtain ⟨rfl, rfl⟩ := hd
      have hle := hs _ rfl
      cases hv with
      | onil hc ho =>
        have : bytesOf ((xs.drop off).take 0) = .empty := by simp [bytesOf]; rfl
        rw [this]
        exact nil _ rfl
      | osl c n o' h0 h1 h2 h3 h4 h5 h8 h6 =>
        · obtain ⟨cs, junk, z, hg, hc⟩ := own_arr O hj h0
          have hcs := cells_ints _ _ hc
          refine alive _ _ _ c _ rfl ?_
          by_cases hl0 : len = 0
          · subst hl0
            have hn : o' ≤ n := by
              by_cases hcb : c < big
              · have := h8 hcb; omega
              · have := (h6 hcb).2.2; omega
            unfold areadN
            rw [hg]
            simp only [AObj.row, Option.bind_some, takeAt]
            unfold blen at h1
            rw [hg] at h1
            simp only [AObj.row, Option.map_some, Option.some.injEq] at h1
            rw [if_pos (by omega)]
            simp
          · have ho' : o' = off := by have := h5 (by omega); simpa [Ty.size] using this
            subst ho'
            unfold areadN
            rw [hg]
            simp only [AObj.row, Option.bind_some, takeAt]
            rw [hcs]
            rw [if_pos (by simp; omega)]
            congr 1
            rw [List.drop_append_of_le_length (by simp; omega), List.take_append_of_le_length (by simp; omega), ← List.map_drop, ← List.map_take]
    · cases hd
  · cases hd

theorem mm_go {mx : Bool} {k : IntKind} : ∀ (l : List DV) (vs : List Value) (x : Int) (r : DV), dMmGo mx k x l = some r → l.length = vs.length → (∀ (i : Nat) (d : DV) (v : Value), l[i]? = some d → vs[i]? = some v → RdV h F η d v) →
    ∃ n, r = .int k n ∧ vs.foldlM (amin2 mx) (.int k x) = some (.int k n)
  | [], [], x, r, hd, _, _ => by simp [dMmGo] at hd; exact ⟨x, hd.symm, rfl⟩
  | [], _ :: _, _, _, _, hl, _ => by simp at hl
  | d :: l, [], _, _, _, hl, _ => by simp at hl
  | d :: l, v :: vs, x, r, hd, hl, hv => by
    have h0 := hv 0 d v rfl rfl
    cases d with
    | int k' y =>
      cases h0
      simp only [dMmGo] at hd
      cases hk : decide (k = k') with
      | false => simp [hk] at hd
      | true =>
        have := of_decide_eq_true hk
        subst this
        simp only [decide_true, cond_true] at hd
        obtain ⟨n, h1, h2⟩ := mm_go l vs _ r hd (by simpa using hl) (fun i d v a b => hv (i + 1) d v (by simpa using a) (by simpa using b))
        refine ⟨n, h1, ?_⟩
        rw [List.foldlM_cons]
        have e : amin2 mx (.int k x) (.int k y) = some (.int k (bif mx then max x y else min x y)) := by
          simp only [amin2]
          congr 2
          cases mx <;> simp <;> omega
        rw [e]
        exact h2
    | _ => simp [dMmGo] at hd

theorem mm_sound {mx : Bool} {l : List DV} {vs : List Value} (hd : dMm mx l = some d) (hl : l.length = vs.length) (hv : ∀ (i : Nat) (d : DV) (v : Value), l[i]? = some d → vs[i]? = some v → RdV h F η d v) :
    ∃ w, amin mx vs = some w ∧ RdV h F η d w := by
  unfold dMm at hd
  split at hd
  · rename_i k x r
    match vs, hl, hv with
    | v :: vs, hl, hv =>
      have h0 := hv 0 _ v rfl rfl
      cases h0
      obtain ⟨n, rfl, h2⟩ := mm_go r vs x d hd (by simpa using hl) (fun i d v a b => hv (i + 1) d v (by simpa using a) (by simpa using b))
      exact ⟨_, by rw [amin_eq]; exact h2, .int _ _⟩
  · cases hd

theorem boolD_sound {x : DV} {v : Value} {b : Bool} (hv : RdV h F η x v) (hb : boolD x = some b) : v = .bool b := by
  unfold boolD at hb
  split at hb
  · cases hb; cases hv; rfl
  · cases hb; cases hv; rfl
  · cases hb

end Go.Am

/-
  The data layer: structs that are built, and compared.
-/
namespace Go.Am
open Go Go.RowKit

variable {P : Program} {o : Oper} {st : PT} {h : AHeap} {G F : Nat → Prop} {η : Nat → Nat → Prop} {t : DT} {L : Own} {side : Option Prop} {d : DV}

theorem cellA_sound {x : DV} {v : Value} {l : List DV} (hv : RdV h F η x v) (hl : x.cellA = some l) : PV h F η l v.cells.toList := by
  have one : ∀ d : DV, d.cell = true → RdV h F η d v → PV h F η [d] v.cells.toList := by
    intro d hd hv
    have : v.cells.toList = [v] := by
      cases hv <;> first | rfl | (simp [DV.cell] at hd; done) | skip
      rename_i hs
      rcases hs with ⟨c, rfl, _⟩ | ⟨b, o, c, cs, rfl, _⟩ <;> rfl
    rw [this]
    exact .one hv
  cases x with
  | agg r =>
    simp only [DV.cellA, Option.some.injEq] at hl
    subst hl
    cases hv with | @agg _ xs hl hp => exact ⟨by simpa [Value.cells] using hl, fun i d x hd hx => hp i d x hd (by simpa [Value.cells] using hx)⟩
  | _ =>
    simp only [DV.cellA, DV.cell, cond_true, cond_false, Option.some.injEq, reduceCtorEq] at hl
    try (subst hl; exact one _ rfl hv)

theorem setAllD_len : ∀ (vs c : List DV) (i : Nat), (setAllD c i vs).length = c.length
  | [], _, _ => rfl
  | v :: vs, c, i => by rw [setAllD, setAllD_len vs]; simp

theorem setAll_len : ∀ (vs c : List Value) (i : Nat), (setAll c i vs).length = c.length
  | [], _, _ => rfl
  | v :: vs, c, i => by rw [setAll, setAll_len vs]; simp

theorem PV.setAll : ∀ (vs : List DV) (ws : List Value) (l : List DV) (c : List Value) (i : Nat), PV h F η l c → PV h F η vs ws → PV h F η (setAllD l i vs) (setAll c i ws)
  | [], [], l, c, i, hp, _ => hp
  | [], _ :: _, _, _, _, _, hq => by have := hq.1; simp at this
  | _ :: _, [], _, _, _, _, hq => by have := hq.1; simp at this
  | d :: vs, w :: ws, l, c, i, hp, hq => by
    refine PV.setAll vs ws _ _ _ ⟨by simp [hp.1], fun k e x he hx => ?_⟩ ⟨by have := hq.1; simpa using this, fun k e x he hx => hq.2 (k + 1) e x (by simpa using he) (by simpa using hx)⟩
    rw [List.getElem?_set] at he hx
    by_cases hik : i = k
    · subst hik
      simp only [if_true] at he hx
      split at he
      · simp only [Option.some.injEq] at he; subst he
        split at hx
        · simp only [Option.some.injEq] at hx; subst hx
          exact hq.2 0 d w rfl rfl
        · cases hx
      · cases he
    · simp only [if_neg hik] at he hx
      exact hp.2 k e x he hx

theorem resCs_sound : ∀ (cs : List Value) (l : List DV), resCs cs l = true → PV h F η l cs
  | [], [], _ => .nil
  | v :: cs, d :: l, hz => by
    simp only [resCs, Bool.and_eq_true] at hz
    have := (PV.one (h := h) (F := F) (η := η) (resC_sound hz.1)).append (resCs_sound cs l hz.2)
    simpa using this
  | [], _ :: _, hz => by cases hz
  | _ :: _, [], hz => by cases hz

theorem zip_set (off : Nat) : ∀ (vs : List Value) (k : Nat) (cs : Array Value), ((vs.zipIdx k).foldl (fun cs (c, j) => cs.setIfInBounds (off + j) c) cs).toList = setAll cs.toList (off + k) vs
  | [], _, cs => rfl
  | v :: vs, k, cs => by
    simp only [List.zipIdx_cons, List.foldl_cons, setAll]
    rw [zip_set off vs (k + 1)]
    simp [Nat.add_assoc]


theorem build_sound {place : Nat → Option (Nat × Nat)} (S : Slots st h F η t) : ∀ (ps : List (Nat × Operand)) (qs : List (Nat × Nat × Od)) (z out : List DV) (cs : Array Value), resBuild place ps qs = true → PV h F η z cs.toList → partsD t qs z = some out →
    ∃ vs cells, (ps.map fun p => (p.1, pev st p.2)) = vs ∧ (ps.map (·.2)).all (kn st) = true ∧ Instr.fill place cs vs = some cells ∧ PV h F η out cells.toList
  | [], [], z, out, cs, _, hp, hd => by
    simp only [partsD, Option.some.injEq] at hd
    subst hd
    exact ⟨[], cs, rfl, rfl, rfl, hp⟩
  | [], _ :: _, _, _, _, hr, _, _ => by cases hr
  | _ :: _, [], _, _, _, hr, _, _ => by cases hr
  | (i, a) :: ps, (off, n, x) :: qs, z, out, cs, hr, hp, hd => by
    simp only [resBuild, Bool.and_eq_true] at hr
    obtain ⟨⟨r1, r2⟩, r3⟩ := hr
    simp only [partsD] at hd
    split at hd
    rotate_left
    · cases hd
    rename_i d he
    split at hd
    rotate_left
    · cases hd
    rename_i l hl
    cases hb : (Nat.beq l.length n && Nat.ble (off + n) z.length) with
    | false => rw [hb] at hd; cases hd
    | true =>
    rw [hb, cond_true] at hd
    simp only [Bool.and_eq_true] at hb
    have hn := Nat.eq_of_beq_eq_true hb.1
    have hle := Nat.le_of_ble_eq_true hb.2
    split at r1
    rotate_left
    · cases r1
    rename_i off' n' hpl
    simp only [Bool.and_eq_true] at r1
    have e1 := Nat.eq_of_beq_eq_true r1.1
    have e2 := Nat.eq_of_beq_eq_true r1.2
    subst e1; subst e2
    obtain ⟨v, g1, g2⟩ := od_sound S r2 he
    have hv := cellA_sound g2 hl
    have hz := zip_set off v.cells.toList 0 cs
    rw [Nat.add_zero] at hz
    obtain ⟨vs, cells, k1, k2, k3, k4⟩ := build_sound S ps qs _ out (v.cells.toList.zipIdx.foldl (fun cs (c, j) => cs.setIfInBounds (off + j) c) cs) r3 (by rw [hz]; exact PV.setAll _ _ _ _ off hp hv) hd
    refine ⟨(i, v) :: vs, cells, by rw [List.map_cons, pev_of g1, k1], by rw [List.map_cons, List.all_cons, kn_of g1, k2]; rfl, ?_, k4⟩
    simp only [Instr.fill, hpl]
    have hs : v.cells.size = n := by have := hv.1; rw [hn] at this; rw [this]; simp
    have hcs : cs.size = z.length := by rw [hp.1]; simp
    rw [if_neg]
    · rw [← Array.foldl_toList, Array.toList_zipIdx]; exact k3
    · simp only [hs, hcs, ne_eq, not_true_eq_false, decide_false, Bool.false_or, decide_eq_true_eq]
      omega

theorem yBuild {ty : Nat} {ps : Array (Nat × Operand)} {z out : List DV} {qs : List (Nat × Nat × Od)} {zv : Value} {place : Nat → Option (Nat × Nat)} (S : Slots st h F η t) (hok : okOper P o = true) (ho : o.op = .build ty ps) (hpl : placeOf P ty = some place) (hz : azero P ty = some zv)
    (hc : resCs zv.cells.toList z = true) (hr : resBuild place ps.toList qs = true) (hd : partsD t qs z = some out) : Yields P o st h F η (.agg out) := by
  obtain ⟨vs, cells, k1, k2, k3, k4⟩ := build_sound S _ _ z out zv.cells hr (resCs_sound _ _ hc) hd
  have hk : knows st o = true := by rw [knows_eq, ho]; simpa [Op.operands] using k2
  have hi : ∃ it, P.info? ty = some it ∧ it.zero = some zv := by
    unfold azero at hz
    split at hz
    · cases hz
    · rename_i y _ he
      split at hz
      · simp only [Option.some.injEq] at hz; subst hz
        simpa [Option.bind_eq_some_iff] using he
      · cases hz
    · cases hz
  obtain ⟨it, hi1, hi2⟩ := hi
  have hb : P.built ty vs = some cells := by
    unfold Program.built
    unfold placeOf at hpl
    rw [hi1]
    split at hpl
    · rename_i fs hu
      rw [hu]
      simp only [Option.map_eq_some_iff] at hpl
      obtain ⟨pl, h1, rfl⟩ := hpl
      simp only [hi2, h1]
      exact k3
    · rename_i e hu
      rw [hu]
      simp only [Option.map_eq_some_iff] at hpl
      obtain ⟨ie, h1, rfl⟩ := hpl
      simp only [hi2, h1]
      exact k3
    · cases hpl
  refine ⟨.agg cells, ?_, by simpa using k4.agg⟩
  have := xBuild (P := P) (t := st) (h := h) (cs := cells.toList) ho hok hk k1 (by unfold abuild; rw [hz, hb]; simp)
  simpa using this

theorem ba_beq (p q : ByteArray) : (p == q) = decide (p = q) := by
  cases p; cases q; rename_i a b
  show (a == b) = _
  by_cases h : a = b <;> simp [h]

theorem eqCell_sound {f : Field} {i d : Nat} {ty : Ty} {a b : DV} {x y : Value} {r : Bool} (hf : plainF P f i ty = true) (ha : RdV h F η a x) (hb : RdV h F η b y) (he : eqCell ty a b = some r) :
    f.offset = i ∧ (f.name == "_") = false ∧ aisAgg P f.type = some false ∧ aequal P (d + 1) f.type x y = some r := by
  unfold plainF at hf
  simp only [Bool.and_eq_true, Bool.not_eq_true'] at hf
  obtain ⟨⟨h1, h2⟩, h3⟩ := hf
  refine ⟨Nat.eq_of_beq_eq_true h1, h2, ?_⟩
  unfold aisAgg aequal
  split at h3
  · rename_i k k' hu
    simp only [decide_eq_true_eq] at h3
    subst h3
    rw [hu]
    refine ⟨rfl, ?_⟩
    cases a with
    | int k1 p =>
      cases b with
      | int k2 q =>
        simp only [eqCell] at he
        cases hc : (decide (k = k1) && decide (k = k2)) with
        | false => rw [hc] at he; cases he
        | true =>
          rw [hc] at he
          simp only [Bool.and_eq_true, decide_eq_true_eq] at hc
          obtain ⟨rfl, rfl⟩ := hc
          simp only [cond_true, Option.some.injEq] at he
          subst he
          cases ha; cases hb
          simp [asame]
          by_cases hpq : p = q <;> simp [hpq]
      | _ => simp [eqCell] at he
    | _ => simp [eqCell] at he
  · rename_i hu
    rw [hu]
    refine ⟨rfl, ?_⟩
    cases a with
    | bool p =>
      cases b with
      | bool q =>
        simp only [eqCell, Option.some.injEq] at he
        subst he
        cases ha; cases hb
        simp [asame]
      | lit q =>
        simp only [eqCell, Option.some.injEq] at he
        subst he
        cases ha; cases hb
        simp [asame]
      | _ => simp [eqCell] at he
    | lit p =>
      cases b with
      | bool q =>
        simp only [eqCell, Option.some.injEq] at he
        subst he
        cases ha; cases hb
        simp [asame]
      | lit q =>
        simp only [eqCell, Option.some.injEq] at he
        subst he
        cases ha; cases hb
        simp [asame]
      | _ => simp [eqCell] at he
    | _ => simp [eqCell] at he
  · rename_i hu
    rw [hu]
    refine ⟨rfl, ?_⟩
    cases a with
    | str p =>
      cases b with
      | str q =>
        simp only [eqCell, Option.some.injEq] at he
        subst he
        cases ha; cases hb
        simp [asame, ba_beq]
      | _ => simp [eqCell] at he
    | _ => simp [eqCell] at he
  · cases h3

theorem eqCells_sound {d : Nat} {X Y : Array Value} : ∀ (fs : List Field) (ts : List Ty) (l r : List DV) (i : Nat) (b : Bool), plainFields P i fs ts = true → PV h F η l (X.toList.drop i) → PV h F η r (Y.toList.drop i) → eqCells ts l r = some b →
    aeqFields P (aequal P (d + 1)) X Y fs = some b
  | [], [], l, r, i, b, _, _, _, he => by
    cases l <;> cases r <;> simp [eqCells] at he
    subst he; rfl
  | [], _ :: _, _, _, _, _, hp, _, _, _ => by cases hp
  | _ :: _, [], _, _, _, _, hp, _, _, _ => by cases hp
  | f :: fs, ty :: ts, l, r, i, b, hp, hl, hr, he => by
    simp only [plainFields, Bool.and_eq_true] at hp
    unfold eqCells at he
    split at he
    · rename_i heq; cases heq
    rotate_left
    · cases he
    rename_i a l' c r' heq
    cases heq
    split at he
    rotate_left
    · cases he
    rename_i p q h1 h2
    simp only [Option.some.injEq] at he
    have nx : ∀ (l : List DV) (a : DV) (X : Array Value), PV h F η (a :: l) (X.toList.drop i) → ∃ x, X[i]? = some x ∧ RdV h F η a x ∧ PV h F η l (X.toList.drop (i + 1)) := by
      intro l a X hl
      have hlen := hl.1
      simp only [List.length_cons, List.length_drop] at hlen
      have hi : i < X.toList.length := by omega
      have e : X.toList.drop i = X.toList[i] :: X.toList.drop (i + 1) := List.drop_eq_getElem_cons hi
      rw [e] at hl
      refine ⟨X.toList[i], by rw [← Array.getElem?_toList]; exact List.getElem?_eq_getElem hi, hl.2 0 _ _ rfl rfl, ⟨by have := hl.1; simpa using this, fun k d x hd hx => hl.2 (k + 1) d x (by simpa using hd) (by simpa using hx)⟩⟩
    obtain ⟨x, x1, x2, x3⟩ := nx _ _ _ hl
    obtain ⟨y, y1, y2, y3⟩ := nx _ _ _ hr
    obtain ⟨e1, e2, e3, e4⟩ := eqCell_sound (d := d) hp.1 x2 y2 h1
    have ih := eqCells_sound (d := d) fs ts _ _ (i + 1) q hp.2 x3 y3 h2
    have hap : ∀ (Z : Array Value) (z : Value), Z[i]? = some z → apart P f.type Z f.offset = some z := by
      intro Z z hz
      unfold apart
      rw [e3, e1]
      simpa using hz
    simp only [aeqFields]
    rw [if_neg (by simpa using e2), hap _ _ x1, hap _ _ y1]
    simp only [e4]
    subst he
    cases p with
    | true => simpa using ih
    | false => rfl

theorem eqs_sound {ty : Nat} {ts : List Ty} {l r : List DV} {v w : Value} {b : Bool} (hT : eqsT P ty ts = true) (hv : RdV h F η (.agg l) v) (hw : RdV h F η (.agg r) w) (he : eqCells ts l r = some b) :
    abinOp P .eql ty v w = some (.bool b) ∧ abinOp P .neq ty v w = some (.bool (!b)) := by
  cases hv with | @agg _ xs hl1 hl2 =>
  cases hw with | @agg _ ys hr1 hr2 =>
  unfold eqsT at hT
  split at hT
  rotate_left
  · cases hT
  rename_i fs hu
  simp only [Bool.and_eq_true, Bool.not_eq_true'] at hT
  have key : aequal P 100 ty (.agg xs) (.agg ys) = some b := by
    have := eqCells_sound (P := P) (h := h) (F := F) (η := η) (d := 98) (X := xs) (Y := ys) fs.toList ts l r 0 b hT.2 ⟨by simpa using hl1, fun i d x a c => hl2 i d x a (by simpa using c)⟩ ⟨by simpa using hr1, fun i d x a c => hr2 i d x a (by simpa using c)⟩ he
    unfold aequal
    rw [hu]
    simp only [hT.1.1, Bool.false_eq_true, if_false]
    exact this
  constructor
  · simp only [abinOp, noGuard, hT.1.2, Bool.not_false, if_true, key, Option.map_some]
  · simp only [abinOp, noGuard, hT.1.2, Bool.not_false, if_true, key, Option.map_some]

end Go.Am

/-
  The data layer: the operations that leave memory alone, all of them.
-/
namespace Go.Am
open Go Go.RowKit

variable {P : Program} {o : Oper} {st : PT} {h : AHeap} {G F : Nat → Prop} {η : Nat → Nat → Prop} {t : DT} {L : Own} {side : Option Prop} {d : DV}

theorem map_none {α β : Type} {x : Option α} {f : α → β} {s : Option Prop} {d : β} (h : (x.map fun a => ((none : Option Prop), f a)) = some (s, d)) : ∃ a, x = some a ∧ s = none ∧ d = f a := by
  simp only [Option.map_eq_some_iff, Prod.mk.injEq] at h
  obtain ⟨a, h1, h2, h3⟩ := h
  exact ⟨a, h1, h2.symm, h3.symm⟩

set_option maxHeartbeats 1000000 in
theorem dpure_sound {x : DOp} (hr : resOp P o.op x = true) (hok : okOper P o = true) (S : Slots st h (Fz G η L.m) η t) (O : OwnR h G η L) (hd : dpure x t L.m = some (side, d)) (hs : ∀ p, side = some p → p) :
    Yields P o st h (Fz G η L.m) η d := by
  generalize ho : o.op = op at hr
  unfold resOp at hr
  split at hr
  · -- move
    obtain ⟨a, h1, _, rfl⟩ := map_none hd
    exact yMv S hok (.inl ho) hr h1
  · obtain ⟨a, h1, _, rfl⟩ := map_none hd
    exact yMv S hok (.inr ho) hr h1
  · cases hr
  · -- pick
    simp only [Bool.and_eq_true] at hr
    simp only [dpure] at hd
    split at hd
    · rename_i h1 h2 h3
      exact yPick S hok ho hr.1.1 hr.1.2 hr.2 h1 h2 h3 hd
    · cases hd
  · -- bin
    simp only [Bool.and_eq_true, decide_eq_true_eq] at hr
    obtain ⟨⟨rfl, r1⟩, r2⟩ := hr
    simp only [dpure] at hd
    split at hd
    · rename_i h1 h2
      obtain ⟨v1, a1, b1⟩ := od_sound S r1 h1
      obtain ⟨v2, a2, b2⟩ := od_sound S r2 h2
      obtain ⟨w, k1, k2⟩ := binI_sound (P := P) b1 b2 hd hs
      exact ⟨w, xBin ho hok a1 a2 k1, k2⟩
    · cases hd
  · -- bool equality
    rename_i op ty a b yt neg x y
    simp only [Bool.and_eq_true, decide_eq_true_eq] at hr
    obtain ⟨⟨⟨r0, rt⟩, r1⟩, r2⟩ := hr
    have hu : P.underlying ty = some .bool := by
      unfold isBoolT at rt
      split at rt
      · assumption
      · cases rt
    simp only [dpure] at hd
    split at hd
    · rename_i dx dy h1 h2
      split at hd
      · rename_i p q h3 h4
        simp only [Option.some.injEq, Prod.mk.injEq] at hd
        obtain ⟨_, rfl⟩ := hd
        obtain ⟨v1, a1, b1⟩ := od_sound S r1 h1
        obtain ⟨v2, a2, b2⟩ := od_sound S r2 h2
        rw [boolD_sound b1 h3] at a1
        rw [boolD_sound b2 h4] at a2
        cases neg with
        | true =>
          simp only [if_true] at r0
          subst r0
          exact ⟨_, xBin ho hok a1 a2 (bNeqB hu), .bool _⟩
        | false =>
          simp only [Bool.false_eq_true, if_false] at r0
          subst r0
          exact ⟨_, xBin ho hok a1 a2 (bEqlB hu), .bool _⟩
      · cases hd
    · cases hd
  · -- equality of structs
    rename_i op ty a b yt ts neg x y
    simp only [Bool.and_eq_true, decide_eq_true_eq] at hr
    obtain ⟨⟨⟨r0, rt⟩, r1⟩, r2⟩ := hr
    simp only [dpure] at hd
    split at hd
    · rename_i l r h1 h2
      obtain ⟨q, h3, _, rfl⟩ := map_none hd
      obtain ⟨v1, a1, b1⟩ := od_sound S r1 h1
      obtain ⟨v2, a2, b2⟩ := od_sound S r2 h2
      obtain ⟨k1, k2⟩ := eqs_sound (P := P) rt b1 b2 h3
      cases neg with
      | true =>
        simp only [if_true] at r0
        subst r0
        exact ⟨_, xBin ho hok a1 a2 k2, .bool _⟩
      | false =>
        simp only [Bool.false_eq_true, if_false] at r0
        subst r0
        exact ⟨_, xBin ho hok a1 a2 k1, .bool _⟩
    · cases hd
  · -- a struct that is built
    split at hr
    · rename_i pl zv h1 h2
      simp only [Bool.and_eq_true] at hr
      simp only [dpure] at hd
      obtain ⟨l, h3, _, rfl⟩ := map_none hd
      exact yBuild S hok ho h1 h2 hr.1 hr.2 h3
    · cases hr
  · exact yNot S hok ho hr hd
  · exact yNeg S hok ho hr hd
  · simp only [Bool.and_eq_true] at hr
    exact yConv S hok ho hr.1.1 hr.1.2 hr.2 hd
  · -- toS
    simp only [Bool.and_eq_true] at hr
    simp only [dpure] at hd
    split at hd
    · rename_i h1
      obtain ⟨v1, a1, b1⟩ := od_sound S hr.2 h1
      exact toS_sound O hok ho a1 b1 hr.1.1 hr.1.2 hd hs
    · cases hd
  · -- strC
    simp only [Bool.and_eq_true] at hr
    simp only [dpure] at hd
    split at hd
    · rename_i h1
      obtain ⟨v1, a1, b1⟩ := od_sound S hr.2 h1
      cases b1
      simp only [Option.some.injEq, Prod.mk.injEq] at hd
      obtain ⟨_, rfl⟩ := hd
      have q1 := hr.1.1
      have q2 := hr.1.2
      unfold isStrT at q1 q2
      split at q1
      · rename_i hu1
        split at q2
        · rename_i hu2
          exact ⟨_, xConvStr ho hok hu1 hu2 a1, .str _⟩
        · cases q2
      · cases q1
    · cases hd
  · -- len
    split at hr
    · rename_i a ty hargs hty
      simp only [Bool.and_eq_true] at hr
      simp only [dpure] at hd
      split at hd
      · rename_i h1
        obtain ⟨n, h2, _, rfl⟩ := map_none hd
        obtain ⟨v1, a1, b1⟩ := od_sound S hr.2 h1
        have hk : knows st o = true := by rw [knows_eq, ho]; simp [Op.operands, Call.operands, hargs, kn_of a1]
        exact ⟨_, xLen ho hok hk hargs hty a1 (lenD_sound b1 h2 hr.1), .int _ _⟩
      · cases hd
    · cases hr
  · -- lenS
    split at hr
    · rename_i a ty hargs hty
      simp only [Bool.and_eq_true] at hr
      simp only [dpure] at hd
      split at hd
      · rename_i h1
        simp only [Option.some.injEq, Prod.mk.injEq] at hd
        obtain ⟨_, rfl⟩ := hd
        obtain ⟨v1, a1, b1⟩ := od_sound S hr.2 h1
        cases b1
        have hk : knows st o = true := by rw [knows_eq, ho]; simp [Op.operands, Call.operands, hargs, kn_of a1]
        have q := hr.1
        unfold isStrT at q
        split at q
        · rename_i hu
          exact ⟨_, xLen ho hok hk hargs hty a1 (lenStr hu), .int _ _⟩
        · cases q
      · cases hd
    · cases hr
  · -- cap
    split at hr
    · rename_i a ty hargs hty
      simp only [Bool.and_eq_true] at hr
      simp only [dpure] at hd
      split at hd
      · rename_i h1
        obtain ⟨n, h2, _, rfl⟩ := map_none hd
        obtain ⟨v1, a1, b1⟩ := od_sound S hr.2 h1
        have hk : knows st o = true := by rw [knows_eq, ho]; simp [Op.operands, Call.operands, hargs, kn_of a1]
        exact ⟨_, xCap ho hok hk hargs hty a1 (capD_sound b1 h2 hr.1), .int _ _⟩
      · cases hd
    · cases hr
  · -- min
    simp only [dpure] at hd
    split at hd
    · rename_i l h1
      obtain ⟨w, h2, _, rfl⟩ := map_none hd
      obtain ⟨vs, k1, k2, k3, k4⟩ := ods_sound S _ _ _ hr h1
      obtain ⟨u, m1, m2⟩ := mm_sound h2 k3 k4
      have hk : knows st o = true := by rw [knows_eq, ho]; simpa [Op.operands, Call.operands] using k2
      exact ⟨u, xMin ho hok hk k1 m1, m2⟩
    · cases hd
  · -- max
    simp only [dpure] at hd
    split at hd
    · rename_i l h1
      obtain ⟨w, h2, _, rfl⟩ := map_none hd
      obtain ⟨vs, k1, k2, k3, k4⟩ := ods_sound S _ _ _ hr h1
      obtain ⟨u, m1, m2⟩ := mm_sound h2 k3 k4
      have hk : knows st o = true := by rw [knows_eq, ho]; simpa [Op.operands, Call.operands] using k2
      exact ⟨u, xMax ho hok hk k1 m1, m2⟩
    · cases hd
  · -- index of a string
    simp only [Bool.and_eq_true] at hr
    simp only [dpure] at hd
    split at hd
    · rename_i s k i h1 h2
      simp only [Option.some.injEq, Prod.mk.injEq] at hd
      obtain ⟨rfl, rfl⟩ := hd
      have hi := hs _ rfl
      obtain ⟨v1, a1, b1⟩ := od_sound S hr.1.2 h1
      obtain ⟨v2, a2, b2⟩ := od_sound S hr.2 h2
      cases b1; cases b2
      have q := hr.1.1
      unfold isStrT at q
      split at q
      · rename_i hu
        have hlt : i.toNat < s.data.toList.length := by have : s.data.size = s.size := rfl; simp; omega
        have hq : s[i.toNat]? = some (s.data.toList.getD i.toNat 0) := by
          have hlt' : i.toNat < s.size := by omega
          rw [getElem?_pos s i.toNat hlt']
          congr 1
          rw [List.getD_eq_getElem?_getD, List.getElem?_eq_getElem hlt, Option.getD_some]
          simp; rfl
        exact ⟨_, xIndexStr ho hok hu a1 a2 hi.1 rfl hq, .int _ _⟩
      · cases q
    · cases hd
  · -- index of a slice
    simp only [Bool.and_eq_true] at hr
    simp only [dpure] at hd
    split at hd
    · rename_i h1 h2
      obtain ⟨v1, a1, b1⟩ := od_sound S hr.1.2 h1
      obtain ⟨v2, a2, b2⟩ := od_sound S hr.2 h2
      obtain ⟨w, k1, k2⟩ := idx_sound b1 b2 hr.1.1 hd hs
      exact ⟨w, .pure hok (knows2 (by rw [ho]; rfl) a1 a2) (by unfold apure; rw [ho]; simp only [pev_of a1, pev_of a2, k1]), k2⟩
    · cases hd
  · -- index by a pointer to an array
    rename_i ty a b n len x i
    simp only [Bool.and_eq_true] at hr
    simp only [dpure] at hd
    split at hd
    · rename_i j e k kd i h1 h2
      cases hn : Nat.beq e.size n with
      | false => simp [hn] at hd
      | true =>
        simp only [hn, cond_true, Option.some.injEq, Prod.mk.injEq] at hd
        obtain ⟨rfl, rfl⟩ := hd
        have hi := hs _ rfl
        obtain ⟨v1, a1, b1⟩ := od_sound S hr.1.2 h1
        obtain ⟨v2, a2, b2⟩ := od_sound S hr.2 h2
        obtain ⟨w, k1, k2⟩ := idxP_sound b1 b2 hr.1.1 (Nat.eq_of_beq_eq_true hn) hi
        exact ⟨w, .pure hok (knows2 (by rw [ho]; rfl) a1 a2) (by unfold apure; rw [ho]; simp only [pev_of a1, pev_of a2, k1]), k2⟩
    · cases hd
  · -- fieldAddr
    simp only [Bool.and_eq_true] at hr
    simp only [dpure] at hd
    split at hd
    · rename_i h1
      obtain ⟨v1, a1, b1⟩ := od_sound S hr.2 h1
      obtain ⟨w, k1, k2⟩ := fldA_sound b1 hr.1 hd
      exact ⟨w, .pure hok (knows1 (by rw [ho]; rfl) a1) (by unfold apure; rw [ho]; simp only [pev_of a1, k1]), k2⟩
    · cases hd
  · -- field
    simp only [Bool.and_eq_true] at hr
    simp only [dpure] at hd
    split at hd
    · rename_i x h1
      obtain ⟨v1, a1, b1⟩ := od_sound S hr.2 h1
      cases x with
      | agg l =>
        obtain ⟨w, k1, k2⟩ := fld_sound b1 hr.1 hd hs
        exact ⟨w, .pure hok (knows1 (by rw [ho]; rfl) a1) (by unfold apure; rw [ho]; simp only [pev_of a1, k1]), k2⟩
      | _ => simp [dFld] at hd
    · cases hd
  · -- load
    simp only [Bool.and_eq_true, beq_iff_eq] at hr
    simp only [dpure] at hd
    split at hd
    · rename_i h1
      obtain ⟨v1, a1, b1⟩ := od_sound S hr.2 h1
      obtain ⟨w, k1, k2⟩ := load_sound O b1 hr.1.1 hr.1.2 hd hs
      exact ⟨w, .pure hok (knows1 (by rw [ho]; rfl) a1) (by unfold apure; rw [ho]; simp only [pev_of a1, k1]), k2⟩
    · cases hd
  · -- slice
    simp only [Bool.and_eq_true] at hr
    obtain ⟨⟨⟨⟨r0, r1⟩, r2⟩, r3⟩, r4⟩ := hr
    simp only [dpure] at hd
    split at hd
    · rename_i h1 h2 h3 h4
      obtain ⟨v1, a1, b1⟩ := od_sound S r1 h1
      obtain ⟨l, l1, l2⟩ := evO_sound S r2 h2
      obtain ⟨r, q1, q2⟩ := evO_sound S r3 h3
      obtain ⟨m, m1, m2⟩ := evO_sound S r4 h4
      obtain ⟨w, k1, k2⟩ := slc_sound b1 r0 l2 q2 m2 hd hs
      exact ⟨w, xSlice ho hok a1 l1 q1 m1 k1, k2⟩
    · cases hd
  · -- part of a string
    simp only [Bool.and_eq_true] at hr
    obtain ⟨⟨⟨r0, r1⟩, r2⟩, r3⟩ := hr
    simp only [dpure] at hd
    split at hd
    · rename_i h1 h2 h3
      obtain ⟨v1, a1, b1⟩ := od_sound S r1 h1
      obtain ⟨l, l1, l2⟩ := evO_sound S r2 h2
      obtain ⟨r, q1, q2⟩ := evO_sound S r3 h3
      obtain ⟨w, k1, k2⟩ := slcS_sound b1 r0 l2 q2 hd hs
      exact ⟨w, xSlice ho hok a1 l1 q1 rfl k1, k2⟩
    · cases hd
  · -- extract
    simp only [Bool.and_eq_true] at hr
    have hij := Nat.eq_of_beq_eq_true hr.1
    subst hij
    simp only [dpure] at hd
    split at hd
    · rename_i l h1
      obtain ⟨w, h2, _, rfl⟩ := map_none hd
      obtain ⟨v1, a1, b1⟩ := od_sound S hr.2 h1
      cases b1 with | @tup _ xs hl hp =>
      have hi := (List.getElem?_eq_some_iff.1 h2).1
      rw [hl] at hi
      have hv := Array.getElem?_eq_getElem hi
      exact ⟨_, xExtract (vs := xs.toList) ho hok (by simpa using a1) (by rw [Array.getElem?_toList]; exact hv), hp _ _ _ h2 hv⟩
    · cases hd
  · -- makeFunc
    simp only [Bool.and_eq_true] at hr
    have hfg := Nat.eq_of_beq_eq_true hr.1.1
    subst hfg
    simp only [dpure] at hd
    split at hd
    · rename_i xs us h1 h2
      simp only [Option.some.injEq, Prod.mk.injEq] at hd
      obtain ⟨_, rfl⟩ := hd
      obtain ⟨vs, k1, k2, k3, k4⟩ := ods_sound S _ _ _ hr.1.2 h1
      obtain ⟨ws, m1, m2, m3, m4⟩ := ods_sound S _ _ _ hr.2 h2
      have hk : knows st o = true := by rw [knows_eq, ho]; simp only [Op.operands, Array.toList_append, List.all_append, k2, m2, Bool.and_self]
      refine ⟨_, xMakeFunc ho hok hk rfl rfl, .clo (by simp [← k1] at k3; simpa using k3) (fun i d x hd hx => k4 i d x hd ?_) (by simp [← m1] at m3; simpa using m3) (fun i d x hd hx => m4 i d x hd ?_)⟩
      · rw [← k1]; simpa using hx
      · rw [← m1]; simpa using hx
    · cases hd
  · cases hr

end Go.Am

/-
  The data layer: operations that turn memory.
-/
namespace Go.Am
open Go Go.RowKit

variable {P : Program} {o : Oper} {st : PT} {h : AHeap} {G F : Nat → Prop} {η : Nat → Nat → Prop} {t : DT} {L : Own} {side : Option Prop} {d : DV} {E : Env}

def memN (ks : List Nat) (j : Nat) : Bool := ks.any (Nat.beq j)

/-- What is said of an operation's outcome: its value, what is one's own afterwards, names that are gone. -/
abbrev KK := DV → Own → List Nat → Prop

def EffP (E : Env) (h : AHeap) (η : Nat → Nat → Prop) (L : Own) (K : KK) (v : Value) (h' : AHeap) : Prop :=
  ∃ d L' ks η', K d L' ks ∧ HS E η' L' h' ∧ RdV h' (Fz E.gd η' L'.m) η' d v ∧ Mv E.gd η L h η' L' h' (memN ks)

def newO (L : Own) (l : Loc) : Own := ⟨L.nx + 1, L.fx, (L.nx, l) :: L.m⟩
def setO (L : Own) (j : Nat) (l : Loc) : Own := ⟨L.nx, L.fx, stO L.m j l⟩

theorem PV.isCell {l : List DV} {cs : List Value} (hp : PV h F η l cs) (hl : l.all DV.cell = true) : cs.all isCell = true := by
  rw [List.all_eq_true] at hl ⊢
  intro x hx
  obtain ⟨i, hi, rfl⟩ := List.getElem_of_mem hx
  have hil : i < l.length := by rw [hp.1]; exact hi
  have hd := hl l[i] (List.getElem_mem hil)
  have hv := hp.2 i l[i] cs[i] (by simp [hil]) (by simp [hi])
  generalize l[i] = d at hd hv
  generalize cs[i] = v at hv
  cases hv <;> first | rfl | (simp [DV.cell] at hd; done) | skip
  rename_i hs
  rcases hs with ⟨c, rfl, _⟩ | ⟨b, o, c, cs, rfl, _⟩ <;> rfl

/-- Data out of cells. -/
theorem unflat_sound : ∀ (t : Ty) (l r : List DV) (cs : List Value) (x : t.D), unflat t l = some (x, r) → PV h F η l cs → ∃ c1 c2, cs = c1 ++ c2 ∧ RdC h F t c1 x ∧ PV h F η r c2 := by
  have hcons : ∀ (d : DV) (l : List DV) (cs : List Value), PV h F η (d :: l) cs → ∃ v c, cs = v :: c ∧ RdV h F η d v ∧ PV h F η l c := by
    intro d l cs hp
    match cs, hp with
    | [], hp => have := hp.1; simp at this
    | v :: c, hp => exact ⟨v, c, rfl, hp.2 0 d v rfl rfl, ⟨by have := hp.1; simpa using this, fun i e x he hx => hp.2 (i + 1) e x (by simpa using he) (by simpa using hx)⟩⟩
  intro t
  induction t with
  | int k =>
    intro l r cs x hu hp
    simp only [unflat] at hu
    split at hu <;> try (cases hu; done)
    rename_i k' y r'
    split at hu
    · rename_i hk
      subst hk
      simp only [Option.some.injEq, Prod.mk.injEq] at hu
      obtain ⟨rfl, rfl⟩ := hu
      obtain ⟨v, c, rfl, hv, hp2⟩ := hcons _ _ _ hp
      cases hv
      exact ⟨[_], c, rfl, rfl, hp2⟩
    · cases hu
  | bool =>
    intro l r cs x hu hp
    simp only [unflat] at hu
    split at hu <;> try (cases hu; done)
    all_goals
      simp only [Option.some.injEq, Prod.mk.injEq] at hu
      obtain ⟨rfl, rfl⟩ := hu
      obtain ⟨v, c, rfl, hv, hp2⟩ := hcons _ _ _ hp
      cases hv
      exact ⟨[_], c, rfl, rfl, hp2⟩
  | str =>
    intro l r cs x hu hp
    simp only [unflat] at hu
    split at hu <;> try (cases hu; done)
    simp only [Option.some.injEq, Prod.mk.injEq] at hu
    obtain ⟨rfl, rfl⟩ := hu
    obtain ⟨v, c, rfl, hv, hp2⟩ := hcons _ _ _ hp
    cases hv
    exact ⟨[_], c, rfl, rfl, hp2⟩
  | unit =>
    intro l r cs x hu hp
    simp only [unflat, Option.some.injEq, Prod.mk.injEq] at hu
    obtain ⟨_, rfl⟩ := hu
    exact ⟨[], cs, rfl, rfl, hp⟩
  | pair a b iha ihb =>
    intro l r cs x hu hp
    simp only [unflat] at hu
    split at hu
    · rename_i y r1 h1
      split at hu
      · rename_i z r2 h2
        simp only [Option.some.injEq, Prod.mk.injEq] at hu
        obtain ⟨rfl, rfl⟩ := hu
        obtain ⟨c1, c2, rfl, k1, k2⟩ := iha l r1 cs y h1 hp
        obtain ⟨c3, c4, rfl, m1, m2⟩ := ihb r1 _ c2 z h2 k2
        exact ⟨c1 ++ c3, c4, by rw [List.append_assoc], ⟨c1, c3, rfl, k1, m1⟩, m2⟩
      · cases hu
    · cases hu
  | sl e _ =>
    intro l r cs x hu hp
    simp only [unflat] at hu
    split at hu <;> try (cases hu; done)
    · rename_i e' s r'
      split at hu
      · rename_i he
        subst he
        simp only [Option.some.injEq, Prod.mk.injEq] at hu
        obtain ⟨rfl, rfl⟩ := hu
        obtain ⟨v, c, rfl, hv, hp2⟩ := hcons _ _ _ hp
        cases hv with | sl hs => exact ⟨[v], c, rfl, ⟨v, rfl, hs⟩, hp2⟩
      · cases hu
    · simp only [Option.some.injEq, Prod.mk.injEq] at hu
      obtain ⟨rfl, rfl⟩ := hu
      obtain ⟨v, c, rfl, hv, hp2⟩ := hcons _ _ _ hp
      cases hv
      exact ⟨[_], c, rfl, ⟨_, rfl, .inl ⟨0, rfl, rfl, .inl ⟨.inl rfl, .inr rfl⟩⟩⟩, hp2⟩

theorem asTy_sound {t : Ty} {l : List DV} {cs : List Value} {x : t.D} (hu : asTy t l = some x) (hp : PV h F η l cs) : RdC h F t cs x := by
  unfold asTy at hu
  split at hu
  · rename_i y hy
    simp only [Option.some.injEq] at hu
    subst hu
    obtain ⟨c1, c2, rfl, h1, h2⟩ := unflat_sound t l [] cs y hy hp
    have : c2 = [] := List.eq_nil_of_length_eq_zero (by have := h2.1; simpa using this.symm)
    subst this
    rwa [List.append_nil]
  · cases hu

/-- A new block. -/
theorem eff_new (H : HS E η L h) {K : KK} {l : Loc} {ob : AObj} {d : DV} {v : Value} (hK : K d (newO L l) [])
    (hl : LocR (h.push ob) (Fz E.gd (addN η L.nx h.n) (newO L l).m) (addN η L.nx h.n) ob l) (hv : RdV (h.push ob) (Fz E.gd (addN η L.nx h.n) (newO L l).m) (addN η L.nx h.n) d v) : EffP E h η L K v (h.push ob) :=
  ⟨d, _, [], _, hK, H.alloc hl, hv, H.mvAlloc ob l⟩

theorem blen_push {ob : AObj} : blen (h.push ob) h.n = ob.row.map (·.length) := by unfold blen; rw [AHeap.get_push, if_pos rfl]
theorem esz_push {ob : AObj} : eszOf (h.push ob) h.n = match ob with | .cells _ e => some e | _ => none := by unfold eszOf; rw [AHeap.get_push, if_pos rfl]; rfl

end Go.Am

/-
  The data layer: new blocks, stores.
-/
namespace Go.Am
open Go Go.RowKit

variable {P : Program} {o : Oper} {st : PT} {h : AHeap} {G F : Nat → Prop} {η : Nat → Nat → Prop} {t : DT} {L : Own} {side : Option Prop} {d : DV} {E : Env}

def isZ : (e : Ty) → List Value → Bool
  | .int k, cs => match cs with | [.int k' n] => decide (k = k') && decide (n = 0) | _ => false
  | .bool, cs => match cs with | [.bool b] => !b | _ => false
  | .str, cs => match cs with | [.string s] => decide (s = ByteArray.empty) | _ => false
  | .unit, cs => cs.isEmpty
  | .pair a b, cs => isZ a (cs.take a.size) && isZ b (cs.drop a.size)
  | .sl _, cs => match cs with | [.slice none 0 0] => true | _ => false

theorem isZ_sound : ∀ (e : Ty) (cs : List Value), isZ e cs = true → RdC h F e cs e.zero := by
  intro e
  induction e with
  | int k => intro cs hz; simp only [isZ] at hz; split at hz
             · simp at hz; obtain ⟨rfl, rfl⟩ := hz; rfl
             · cases hz
  | bool => intro cs hz; simp only [isZ] at hz; split at hz
            · simp at hz; subst hz; rfl
            · cases hz
  | str => intro cs hz; simp only [isZ] at hz; split at hz
           · simp at hz; subst hz; rfl
           · cases hz
  | unit => intro cs hz; simp [isZ] at hz; exact hz
  | pair a b iha ihb =>
    intro cs hz
    simp only [isZ, Bool.and_eq_true] at hz
    exact ⟨_, _, (List.take_append_drop _ _).symm, iha _ hz.1, ihb _ hz.2⟩
  | sl e _ => intro cs hz; simp only [isZ] at hz; split at hz
              · exact ⟨_, rfl, .inl ⟨0, rfl, rfl, .inl ⟨.inl rfl, .inr rfl⟩⟩⟩
              · cases hz

def isZs (e : Ty) : Nat → List Value → Bool
  | 0, cs => cs.isEmpty
  | n + 1, cs => isZ e (cs.take e.size) && isZs e n (cs.drop e.size)

theorem isZs_sound {e : Ty} : ∀ (n : Nat) (cs : List Value), isZs e n cs = true → Cells (RdC h F e) cs (List.replicate n e.zero)
  | 0, cs, hz => by
    have : cs = [] := by simpa [isZs] using hz
    exact this
  | n + 1, cs, hz => by
    simp only [isZs, Bool.and_eq_true] at hz
    exact ⟨_, _, (List.take_append_drop _ _).symm, isZ_sound e _ hz.1, isZs_sound n _ hz.2⟩

theorem PV.same {h' : AHeap} {η' : Nat → Nat → Prop} {L' : Own} {l : List DV} {cs : List Value} (S : Mv G η L h η' L' h' fun _ => false) (hp : PV h (Fz G η L.m) η l cs) : PV h' (Fz G η' L'.m) η' l cs :=
  ⟨hp.1, fun i d x hd hx => (hp.2 i d x hd hx).mono S.st S.kp⟩

/-- Operations of which it can be seen which blocks they leave alone. -/
def calm (o : Oper) : Bool :=
  match o.op with
  | .alloc _ | .box .. | .store _ (.tmp _) _ => true
  | _ => false

structure OpQ (P : Program) (o : Oper) (st : PT) (h : AHeap) (v : Value) (h' : AHeap) : Prop where
  x : OpX P o st h v h'
  e : calm o = true → aeff P (pev st) h o = some (.value v h')
theorem OpQ.eff {v : Value} {h' : AHeap} (hok : okOper P o = true) (hk : knows st o = true) (hn : apure P (pev st) h o = none) (hv : aeff P (pev st) h o = some (.value v h')) : OpQ P o st h v h' := ⟨.eff hok hk hn hv, fun _ => hv⟩

/-- A calm operation leaves all blocks alone but the one that is written. -/
theorem OpQ.keeps {v : Value} {h' : AHeap} (H : OpQ P o st h v h') (hc : calm o = true) {c : Nat} (hcn : (∃ ty q x, o.op = .store ty (.tmp q) x) ∨ c < h.n) (hw : ∀ ty q x b i, o.op = .store ty (.tmp q) x → look? st q = some (.pointer (some ⟨b, i, none⟩)) → c ≠ b) : h'.get c = h.get c := by
  have := H.e hc
  unfold aeff at this
  unfold calm at hc
  split at hc
  · rename_i e heq
    simp only [heq] at this
    split at this
    · simp only [w2, anew, Option.map_some, Option.some.injEq, ANext.value.injEq] at this
      have hcn : c < h.n := hcn.resolve_left (by rintro ⟨_, _, _, q⟩; rw [heq] at q; cases q)
      rw [← this.2, AHeap.get_push, if_neg (by omega)]
    · cases this
  · rename_i e x heq
    simp only [heq, w2, anew, Option.map_some, Option.some.injEq, ANext.value.injEq] at this
    have hcn : c < h.n := hcn.resolve_left (by rintro ⟨_, _, _, q⟩; rw [heq] at q; cases q)
    rw [← this.2, AHeap.get_push, if_neg (by omega)]
  · rename_i ty q x heq
    simp only [heq, Option.map_eq_some_iff, ANext.value.injEq] at this
    obtain ⟨h1, g1, _, rfl⟩ := this
    unfold astore at g1
    split at g1
    · rename_i b i heq2
      split at g1
      · have hl : look? st q = some (.pointer (some ⟨b, i, none⟩)) := by
          unfold pev at heq2
          cases hq : look? st q with
          | none => simp [hq, undef] at heq2
          | some y => simp only [hq, Option.getD_some] at heq2; rw [heq2]
        have := hw ty q x b i heq hl
        unfold awriteN at g1
        split at g1
        · split at g1
          · cases g1
            rw [AHeap.get_set, if_neg this]
          · cases g1
        · cases g1
      · cases g1
    · cases g1
  · cases hc

/-- What an operation does that turns memory. -/
def OpE (P : Program) (E : Env) (o : Oper) (st : PT) (h : AHeap) (η : Nat → Nat → Prop) (L : Own) (K : KK) : Prop := ∃ v h', OpQ P o st h v h' ∧ EffP E h η L K v h'

theorem OpE.of {K : KK} {v : Value} {h' : AHeap} (hop : OpQ P o st h v h') (hE : EffP E h η L K v h') : OpE P E o st h η L K := ⟨v, h', hop, hE⟩

theorem yAlloc {K : KK} {ty : Nat} {z : List DV} (H : HS E η L h) (hok : okOper P o = true) (ho : o.op = .alloc ty) (hz : ((azero P ty).map fun zv => resCs zv.cells.toList z) = some true)
    (hK : K (.bptr L.nx 0) (newO L (.box z)) []) : OpE P E o st h η L K := by
  simp only [Option.map_eq_some_iff] at hz
  obtain ⟨zv, h1, h2⟩ := hz
  refine .of (v := .pointer (some ⟨h.n, 0, none⟩)) (h' := h.push (.cells zv.cells.toList 0)) (.eff hok (knows_nil (by rw [ho]; rfl)) (by unfold apure; rw [ho]) (by unfold aeff; rw [ho]; simp only [h1, w2, anew]; rfl)) ?_
  have hp := resCs_sound (h := h.push (.cells zv.cells.toList 0)) (F := Fz E.gd (addN η L.nx h.n) (newO L (.box z)).m) (η := addN η L.nx h.n) _ _ h2
  exact eff_new H hK (.box hp.1 hp.2) (.bptr 0 (.inr ⟨rfl, rfl⟩))

theorem yAllocA {K : KK} {ty n : Nat} {e : Ty} (H : HS E η L h) (hok : okOper P o = true) (ho : o.op = .alloc ty) (hz : ((azero P ty).map fun z => isZs e n z.cells.toList) = some true)
    (hK : K (.aptr L.nx e 0 0) (newO L (.arr e (List.replicate n e.zero))) []) : OpE P E o st h η L K := by
  simp only [Option.map_eq_some_iff] at hz
  obtain ⟨zv, h1, h2⟩ := hz
  refine .of (v := .pointer (some ⟨h.n, 0, none⟩)) (h' := h.push (.cells zv.cells.toList 0)) (.eff hok (knows_nil (by rw [ho]; rfl)) (by unfold apure; rw [ho]) (by unfold aeff; rw [ho]; simp only [h1, w2, anew]; rfl)) ?_
  have hp := isZs_sound (h := h.push (.cells zv.cells.toList 0)) (F := Fz E.gd (addN η L.nx h.n) (newO L (.arr e (List.replicate n e.zero))).m) (e := e) n _ h2
  have := LocR.arr (η := addN η L.nx h.n) (junk := []) (z := 0) hp
  rw [List.append_nil] at this
  refine eff_new H hK this ?_
  have := RdV.aptr (h := h.push (.cells zv.cells.toList 0)) (F := Fz E.gd (addN η L.nx h.n) (newO L (.arr e (List.replicate n e.zero))).m) (η := addN η L.nx h.n) (j := L.nx) (b := h.n) e 0 0 (.inr ⟨rfl, rfl⟩)
  simpa using this

theorem yBox {K : KK} {ty : Nat} {a : Operand} {x : Od} {l : List DV} (H : HS E η L h) (S : Slots st h (Fz E.gd η L.m) η t) (hok : okOper P o = true) (ho : o.op = .box ty a) (hr : resOd a x = true) (he : ev t x = some d) (hc : d.cellA = some l)
    (hK : K (.bptr L.nx 0) (newO L (.box l)) []) : OpE P E o st h η L K := by
  obtain ⟨v, h1, h2⟩ := od_sound S hr he
  have hp := cellA_sound h2 hc
  refine .of (v := .pointer (some ⟨h.n, 0, none⟩)) (h' := h.push (.cells v.cells.toList 0)) (.eff hok (knows1 (by rw [ho]; rfl) h1) (by unfold apure; rw [ho]) (by unfold aeff; rw [ho]; simp only [pev_of h1, w2, anew]; rfl)) ?_
  have hp' := hp.same (H.mvAlloc (.cells v.cells.toList 0) (.box l))
  exact eff_new H hK (.box hp'.1 hp'.2) (.bptr 0 (.inr ⟨rfl, rfl⟩))

theorem blen_cells {b : Nat} {c : List Value} {e : Nat} (hg : h.get b = .cells c e) : blen h b = some c.length := by unfold blen; rw [hg]; rfl
theorem esz_cells {b : Nat} {c : List Value} {e : Nat} (hg : h.get b = .cells c e) : eszOf h b = some e := by unfold eszOf; rw [hg]

/-- A write into a block of one's own. -/
theorem eff_write {K : KK} {j b : Nat} {l0 l : Loc} {c c' : List Value} {e : Nat} {v : Value} {d : DV} (H : HS E η L h) (hj : lkO L.m j = some l0) (hb : η j b) (hg : h.get b = .cells c e) (hl : c'.length = c.length)
    (hK : K d (setO L j l) []) (hloc : LocR (h.set b (.cells c' e)) (Fz E.gd η (setO L j l).m) η (.cells c' e) l) (hv : RdV (h.set b (.cells c' e)) (Fz E.gd η (setO L j l).m) η d v) : EffP E h η L K v (h.set b (.cells c' e)) := by
  have hs : (AObj.cells c' e).row.map (·.length) = blen h b := by rw [blen_cells hg]; simp [AObj.row, hl]
  have hz : eszOf (h.set b (.cells c' e)) b = eszOf h b := by rw [esz_cells hg]; unfold eszOf; rw [AHeap.get_set, if_pos rfl]
  exact ⟨d, _, [], η, hK, H.write hj hb hs hz hloc, hv, H.mvWrite hj hb hs hz⟩

theorem yStoreB {K : KK} {ty n j off : Nat} {a c : Operand} {x y : Od} {l cells : List DV} (H : HS E η L h) (S : Slots st h (Fz E.gd η L.m) η t) (hok : okOper P o = true) (ho : o.op = .store ty a c) (hz : asize P ty = some n)
    (ra : resOd a x = true) (rc : resOd c y = true) (ea : ev t x = some (.bptr j off)) (ec : ev t y = some d) (hc : d.cellA = some l) (hj : lkO L.m j = some (.box cells)) (hn : l.length = n) (hle : off + n ≤ cells.length)
    (hcell : l.all DV.cell = true) (hK : K .und (setO L j (.box (setAllD cells off l))) []) : OpE P E o st h η L K := by
  obtain ⟨va, a1, a2⟩ := od_sound S ra ea
  obtain ⟨vc, c1, c2⟩ := od_sound S rc ec
  have hp := cellA_sound c2 hc
  cases a2 with | bptr _ hb =>
  rename_i b
  obtain ⟨cc, e, hg, hpc⟩ := own_box H.own hj hb
  have hcc := hp.isCell hcell
  have hw : awriteN h b off vc.cells.toList = some (h.set b (.cells (setAll cc off vc.cells.toList) e)) := by
    unfold awriteN
    rw [hg]
    simp only [hcc, Bool.and_true]
    have h1 := hp.1
    have h2 := hpc.1
    rw [if_pos (by simp only [decide_eq_true_eq]; omega)]
  have hsz : vc.cells.size = n := by have := hp.1; simp at this; omega
  refine .of (v := undef) (h' := h.set b (.cells (setAll cc off vc.cells.toList) e)) (.eff hok (knows2 (by rw [ho]; rfl) a1 c1) (by unfold apure; rw [ho]) ?_) ?_
  · unfold aeff; rw [ho]
    simp only [pev_of a1, pev_of c1, astore, hz, hsz, hw, Option.bind_eq_bind, beq_self_eq_true, if_true, Option.map_some]
  · have hlen : (setAll cc off vc.cells.toList).length = cc.length := setAll_len _ _ _
    have M := H.mvWrite (l := .box (setAllD cells off l)) (o := .cells (setAll cc off vc.cells.toList) e) hj hb (by rw [blen_cells hg]; simp [AObj.row, hlen]) (by rw [esz_cells hg]; unfold eszOf; rw [AHeap.get_set, if_pos rfl])
    have hq := PV.setAll l vc.cells.toList cells cc off hpc hp
    have hq' := hq.same M
    exact eff_write H hj hb hg hlen hK (.box hq'.1 hq'.2) .und

/-- The cells of an element with some of them set. -/
theorem yStoreA {K : KK} {ty n j i off : Nat} {e : Ty} {xs : List e.D} {y0 : e.D} {a c : Operand} {x y : Od} {l : List DV} (H : HS E η L h) (S : Slots st h (Fz E.gd η L.m) η t) (hok : okOper P o = true) (ho : o.op = .store ty a c) (hz : asize P ty = some n)
    (ra : resOd a x = true) (rc : resOd c y = true) (ea : ev t x = some (.aptr j e i off)) (ec : ev t y = some d) (hc : d.cellA = some l) (hj : lkO L.m j = some (.arr e xs)) (hn : l.length = n) (hi : i < xs.length) (hoff : off + n ≤ e.size)
    (hcell : l.all DV.cell = true) (hu : asTy e (setAllD (flat e (xs.getD i e.zero)) off l) = some y0) (hK : K .und (setO L j (.arr e (xs.set i y0))) []) : OpE P E o st h η L K := by
  obtain ⟨va, a1, a2⟩ := od_sound S ra ea
  obtain ⟨vc, c1, c2⟩ := od_sound S rc ec
  have hp := cellA_sound c2 hc
  cases a2 with | aptr _ _ _ hb =>
  rename_i b
  obtain ⟨cs, junk, z, hg, hcs⟩ := own_arr H.own hj hb
  have hL : ∀ c x, RdC h (Fz E.gd η L.m) e c x → c.length = e.size := fun c x => RdC.length e c x
  have hcc := hp.isCell hcell
  have hx : xs[i]? = some (xs.getD i e.zero) := by simp [hi]
  obtain ⟨k1, k2⟩ := Cells.get hL hcs hx
  -- the element's cells before, and after
  have hel : PV h (Fz E.gd η L.m) η (setAllD (flat e (xs.getD i e.zero)) off l) (setAll ((cs.drop (i * e.size)).take e.size) off vc.cells.toList) := PV.setAll _ _ _ _ off (flat_sound e _ _ k1) hp
  have hy := asTy_sound hu hel
  have hset := Cells.set hL xs cs i y0 _ hcs hi hy
  have hvl : vc.cells.toList.length = n := by have := hp.1; omega
  have key : ∀ (vs pre mid post : List Value) (k : Nat), k + vs.length ≤ mid.length → setAll (pre ++ mid ++ post) (pre.length + k) vs = pre ++ setAll mid k vs ++ post := by
    intro vs
    induction vs with
    | nil => intros; rfl
    | cons v vs ih =>
      intro pre mid post k hk
      simp only [setAll, List.length_cons] at hk ⊢
      rw [show (pre ++ mid ++ post).set (pre.length + k) v = pre ++ mid.set k v ++ post from by
        rw [List.append_assoc, List.set_append_right _ _ (by omega), show pre.length + k - pre.length = k from by omega, List.set_append_left _ _ (by omega), List.append_assoc]]
      rw [show pre.length + k + 1 = pre.length + (k + 1) from by omega, ih _ _ _ _ (by simp; omega)]
  have hcsd : cs = cs.take (i * e.size) ++ (cs.drop (i * e.size)).take e.size ++ cs.drop (i * e.size + e.size) := by
    rw [List.append_assoc, ← List.drop_drop, List.take_append_drop, List.take_append_drop]
  have hmid : ((cs.drop (i * e.size)).take e.size).length = e.size := hL _ _ k1
  have hpre : (cs.take (i * e.size)).length = i * e.size := by simp; omega
  have hw2 : setAll (cs ++ junk) (i * e.size + off) vc.cells.toList = setAll cs (i * e.size) (setAll ((cs.drop (i * e.size)).take e.size) off vc.cells.toList) ++ junk := by
    have e1 : setAll cs (i * e.size) (setAll ((cs.drop (i * e.size)).take e.size) off vc.cells.toList) = cs.take (i * e.size) ++ setAll ((cs.drop (i * e.size)).take e.size) off vc.cells.toList ++ cs.drop (i * e.size + e.size) := by
      have := setAll_eq (setAll ((cs.drop (i * e.size)).take e.size) off vc.cells.toList) (cs.take (i * e.size)) (cs.drop (i * e.size + e.size)) ((cs.drop (i * e.size)).take e.size) (by rw [setAll_len])
      rw [hpre, ← hcsd] at this
      exact this
    have e2 := key vc.cells.toList (cs.take (i * e.size)) ((cs.drop (i * e.size)).take e.size) (cs.drop (i * e.size + e.size) ++ junk) off (by rw [hmid]; omega)
    rw [hpre, ← List.append_assoc, ← hcsd] at e2
    rw [e2, e1, List.append_assoc, List.append_assoc, List.append_assoc]
  have hw : awriteN h b (i * e.size + off) vc.cells.toList = some (h.set b (.cells (setAll (cs ++ junk) (i * e.size + off) vc.cells.toList) z)) := by
    unfold awriteN
    rw [hg]
    simp only [hcc, Bool.and_true]
    rw [if_pos (by simp only [List.length_append, decide_eq_true_eq]; omega)]
  have hsz : vc.cells.size = n := by simpa using hvl
  refine .of (v := undef) (h' := h.set b (.cells (setAll (cs ++ junk) (i * e.size + off) vc.cells.toList) z)) (.eff hok (knows2 (by rw [ho]; rfl) a1 c1) (by unfold apure; rw [ho]) ?_) ?_
  · unfold aeff; rw [ho]
    simp only [pev_of a1, pev_of c1, astore, hz, hsz, hw, Option.bind_eq_bind, beq_self_eq_true, if_true, Option.map_some]
  · have hlen : (setAll (cs ++ junk) (i * e.size + off) vc.cells.toList).length = (cs ++ junk).length := setAll_len _ _ _
    have M := H.mvWrite (l := .arr e (xs.set i y0)) (o := .cells (setAll (cs ++ junk) (i * e.size + off) vc.cells.toList) z) hj hb (by rw [blen_cells hg]; simp only [AObj.row, Option.map_some, hlen]) (by rw [esz_cells hg]; unfold eszOf; rw [AHeap.get_set, if_pos rfl])
    refine eff_write H hj hb hg hlen hK ?_ .und
    have hh := LocR.arr (η := η) (junk := junk) (z := z) (Cells.mono (RdC.mono M.st e) _ _ hset)
    rw [← hw2] at hh
    exact hh

end Go.Am

/-
  The data layer: slices that are made.
-/
namespace Go.Am
open Go Go.RowKit

variable {P : Program} {o : Oper} {st : PT} {h : AHeap} {G F : Nat → Prop} {η : Nat → Nat → Prop} {t : DT} {L : Own} {side : Option Prop} {d : DV} {E : Env}

theorem range_cells (z : Array Value) (sz : Nat) (hz : z.size = sz) (hp : 0 < sz) : ∀ n, (List.range (n * sz)).map (fun i => z[i % z.size]!) = (List.replicate n z.toList).flatten
  | 0 => by simp
  | n + 1 => by
    rw [Nat.succ_mul, List.range_add, List.map_append, range_cells z sz hz hp n, List.replicate_succ', List.flatten_append]
    congr 1
    simp only [List.flatten_cons, List.flatten_nil, List.append_nil, List.map_map]
    apply List.ext_getElem
    · simp [hz]
    · intro i h1 h2
      have hi : i < sz := by simpa using h1
      have hm : (n * sz + i) % z.size = i := by rw [hz, Nat.mul_comm, Nat.mul_add_mod, Nat.mod_eq_of_lt hi]
      simp only [List.getElem_map, List.getElem_range, Function.comp_apply, hm]
      rw [getElem!_pos z i (by omega)]
      simp

theorem madeCells_list (z : Array Value) (sz n : Nat) (hz : z.size = sz) (hp : 0 < sz) : (madeCells z (n * sz)).toList = (List.replicate n z.toList).flatten := by
  rw [← range_cells z sz hz hp n]
  simp [madeCells, Array.toList_range]

theorem Cells.rep {α : Type} {R : List Value → α → Prop} {c : List Value} {x : α} (hx : R c x) : ∀ n, Cells R (List.replicate n c).flatten (List.replicate n x)
  | 0 => by simp [Cells]
  | n + 1 => by
    rw [List.replicate_succ, List.flatten_cons, List.replicate_succ]
    exact ⟨c, _, rfl, hx, Cells.rep hx n⟩

def mkT (P : Program) (ty : Nat) (e : Ty) (bytes : Nat) : Bool :=
  match P.underlying ty with
  | some (.slice el) => match P.info? el, azero P el with
    | some i, some z => Nat.beq i.size e.size && Nat.beq i.bytes bytes && isZ e z.cells.toList && Nat.blt 0 e.size
    | _, _ => false
  | _ => false

theorem yMkS {K : KK} {ty bytes : Nat} {e : Ty} {a c : Operand} {x y : Od} {k1 k2 : IntKind} {l m : Int} (H : HS E η L h) (S : Slots st h (Fz E.gd η L.m) η t) (hok : okOper P o = true) (ho : o.op = .makeSlice ty a c) (hT : mkT P ty e bytes = true)
    (ra : resOd a x = true) (rc : resOd c y = true) (ea : ev t x = some (.int k1 l)) (ec : ev t y = some (.int k2 m)) (hlm : 0 ≤ l ∧ l ≤ m ∧ m ≤ 140737488355328 ∧ bytes * m.toNat ≤ 140737488355328)
    (hK : K (.osl L.nx e 0 l.toNat (some m.toNat)) (newO L (.arr e (List.replicate l.toNat e.zero))) []) : OpE P E o st h η L K := by
  unfold mkT at hT
  split at hT
  rotate_left
  · cases hT
  rename_i el hu
  split at hT
  rotate_left
  · cases hT
  rename_i i z hi hz
  simp only [Bool.and_eq_true] at hT
  obtain ⟨⟨⟨t1, t2⟩, t3⟩, t4⟩ := hT
  have t1 := Nat.eq_of_beq_eq_true t1
  have t2 := Nat.eq_of_beq_eq_true t2
  have t4 : 0 < e.size := by simpa [Nat.blt_eq] using t4
  obtain ⟨va, a1, a2⟩ := od_sound S ra ea
  obtain ⟨vc, c1, c2⟩ := od_sound S rc ec
  cases a2; cases c2
  have hzl := isZ_sound (h := h) (F := fun _ => True) e _ t3
  have hzs : z.cells.size = e.size := by have := RdC.length e _ _ hzl; simpa using this
  have hcells := madeCells_list z.cells e.size m.toNat hzs t4
  refine .of (v := .slice (some ⟨h.n, 0, none⟩) l.toNat m.toNat) (h' := h.push (.cells (madeCells z.cells (m.toNat * e.size)).toList 0)) (.eff hok (knows2 (by rw [ho]; rfl) a1 c1) (by unfold apure; rw [ho]) ?_) ?_
  · unfold aeff; rw [ho]
    simp only [pev_of a1, pev_of c1, amakeSlice, hu, hi, hz, w2, t1, t2]
    rw [if_neg]
    · rfl
    · simp only [Bool.or_eq_true, decide_eq_true_eq, not_or]; omega
  · rw [hcells]
    have hr : List.replicate m.toNat z.cells.toList = List.replicate l.toNat z.cells.toList ++ List.replicate (m.toNat - l.toNat) z.cells.toList := by
      rw [List.replicate_append_replicate]; congr 1; omega
    have hlen : ((List.replicate m.toNat z.cells.toList).flatten).length = m.toNat * e.size := by rw [← hcells]; simp [madeCells]
    rw [hr, List.flatten_append] at hlen ⊢
    refine eff_new H hK (.arr (Cells.rep (isZ_sound e _ t3) _)) ?_
    refine .osl m.toNat (m.toNat * e.size) 0 (.inr ⟨rfl, rfl⟩) ?_ (by omega) (by unfold big; omega) (fun k hk => by cases hk; exact ⟨rfl, by unfold big; omega⟩) (fun _ => by simp) (fun _ => by omega) (fun hb => absurd (by unfold big; omega) hb)
    rw [blen_push]; simp only [AObj.row, Option.map_some, hlen]

/-! A slice of known elements. -/

def elemsOf (e : Ty) : List DV → Option (List e.D)
  | [] => some []
  | d :: r => match d.cellA with
    | some l => match asTy e l, elemsOf e r with
      | some x, some xs => some (x :: xs)
      | _, _ => none
    | none => none

theorem elemsOf_len {e : Ty} : ∀ (l : List DV) (xs : List e.D), elemsOf e l = some xs → xs.length = l.length
  | [], xs, h => by simp [elemsOf] at h; subst h; rfl
  | d :: r, xs, h => by
    simp only [elemsOf] at h
    split at h
    · split at h
      · rename_i x ys h1 h2
        simp only [Option.some.injEq] at h
        subst h
        simp [elemsOf_len r ys h2]
      · cases h
    · cases h

theorem fill_sound {e : Ty} {size : Nat} (hsz : size = e.size) : ∀ (ds : List DV) (vs : List Value) (xs : List e.D) (k : Nat) (cells : Array Value) (done : List Value),
    elemsOf e ds = some xs → ds.length = vs.length → (∀ (i : Nat) (d : DV) (v : Value), ds[i]? = some d → vs[i]? = some v → RdV h F η d v) → done.length = k * size → cells.size = (k + ds.length) * size → cells.toList.take (k * size) = done →
    ∃ out cs, Instr.fill (fun i => some (i * size, size)) cells ((List.range' k vs.length).zip vs) = some out ∧ out.toList = done ++ cs ∧ Cells (RdC h F e) cs xs
  | [], [], xs, k, cells, done, he, _, _, hd, hs, ht => by
    simp [elemsOf] at he; subst he
    refine ⟨cells, [], rfl, ?_, rfl⟩
    rw [List.append_nil, ← ht, List.take_of_length_le]
    simp at hs ⊢; omega
  | [], _ :: _, _, _, _, _, _, hl, _, _, _, _ => by simp at hl
  | _ :: _, [], _, _, _, _, _, hl, _, _, _, _ => by simp at hl
  | d :: ds, v :: vs, xs, k, cells, done, he, hl, hv, hd, hs, ht => by
    simp only [elemsOf] at he
    split at he
    rotate_left
    · cases he
    rename_i l hcl
    split at he
    rotate_left
    · cases he
    rename_i x ys hx hys
    simp only [Option.some.injEq] at he
    subst he
    have hp := cellA_sound (hv 0 d v rfl rfl) hcl
    have hr := asTy_sound hx hp
    have hlen := RdC.length e _ _ hr
    have hvs : v.cells.size = size := by rw [hsz, ← hlen]; simp
    simp only [List.length_cons] at hs
    have hs2 : cells.size = k * size + size + ds.length * size := by rw [hs, ← Nat.add_assoc, Nat.add_right_comm, Nat.add_mul, Nat.succ_mul]
    have hrest : cells.toList = done ++ (cells.toList.drop (k * size)).take size ++ cells.toList.drop (k * size + size) := by
      rw [List.append_assoc, ← List.drop_drop, List.take_append_drop, ← ht, List.take_append_drop]
    have hmid : ((cells.toList.drop (k * size)).take size).length = size := by simp; omega
    have hset : setAll cells.toList (k * size) v.cells.toList = done ++ v.cells.toList ++ cells.toList.drop (k * size + size) := by
      have := setAll_eq v.cells.toList done (cells.toList.drop (k * size + size)) ((cells.toList.drop (k * size)).take size) (by rw [hmid]; simp [hvs])
      rw [← hrest, hd] at this
      exact this
    have hzip := zip_set (k * size) v.cells.toList 0 cells
    rw [Nat.add_zero, hset] at hzip
    obtain ⟨out, cs, g1, g2, g3⟩ := fill_sound hsz ds vs ys (k + 1) (v.cells.toList.zipIdx.foldl (fun cs (c, j) => cs.setIfInBounds (k * size + j) c) cells) (done ++ v.cells.toList) hys (by simpa using hl)
      (fun i d w a b => hv (i + 1) d w (by simpa using a) (by simpa using b)) (by rw [List.length_append, hd, Nat.succ_mul]; simp [hvs])
      (by
        have : ∀ (l : List (Value × Nat)) (c : Array Value), (l.foldl (fun cs (x : Value × Nat) => cs.setIfInBounds (k * size + x.2) x.1) c).size = c.size := by
          intro l
          induction l with
          | nil => intro c; rfl
          | cons x l ih => intro c; rw [List.foldl_cons, ih]; simp
        rw [this, hs2, Nat.add_mul, Nat.succ_mul]) (by
        rw [hzip, Nat.succ_mul, List.take_append_of_le_length (by simp [hd, hvs])]
        rw [List.take_of_length_le (by simp [hd, hvs])])
    refine ⟨out, v.cells.toList ++ cs, ?_, by rw [g2, List.append_assoc], ⟨_, _, rfl, hr, g3⟩⟩
    rw [List.length_cons, List.range'_succ, List.zip_cons_cons]
    simp only [Instr.fill]
    rw [if_neg]
    · rw [← Array.foldl_toList, Array.toList_zipIdx]; exact g1
    · simp only [hvs, ne_eq, not_true_eq_false, decide_false, Bool.false_or, decide_eq_true_eq]
      omega

def resParts : Nat → List (Nat × Operand) → List Od → Bool
  | _, [], [] => true
  | k, (i, a) :: l, x :: r => Nat.beq i k && resOd a x && resParts (k + 1) l r
  | _, _, _ => false

theorem parts_sound (S : Slots st h F η t) : ∀ (l : List (Nat × Operand)) (xs : List Od) (k : Nat) (ds : List DV), resParts k l xs = true → evs t xs = some ds →
    ∃ vs, (l.map fun p => (p.1, pev st p.2)) = (List.range' k vs.length).zip vs ∧ (l.map (·.2)).all (kn st) = true ∧ ds.length = vs.length ∧ ∀ (i : Nat) (d : DV) (v : Value), ds[i]? = some d → vs[i]? = some v → RdV h F η d v
  | [], [], k, ds, _, he => by simp [evs] at he; subst he; exact ⟨[], rfl, rfl, rfl, fun i d v hd => by simp at hd⟩
  | (i, a) :: l, x :: r, k, ds, hr, he => by
    simp only [resParts, Bool.and_eq_true] at hr
    obtain ⟨⟨r1, r2⟩, r3⟩ := hr
    have r1 := Nat.eq_of_beq_eq_true r1
    subst r1
    simp only [evs] at he
    split at he
    · rename_i y ds' h1 h2
      simp only [Option.some.injEq] at he
      subst he
      obtain ⟨v, g1, g2⟩ := od_sound S r2 h1
      obtain ⟨vs, k1, k2, k3, k4⟩ := parts_sound S l r (i + 1) ds' r3 h2
      refine ⟨v :: vs, ?_, by rw [List.map_cons, List.all_cons, kn_of g1, k2]; rfl, by simp [k3], fun j d w hd hw => ?_⟩
      · rw [List.map_cons, k1, List.length_cons, List.range'_succ, List.zip_cons_cons, pev_of g1]
      · cases j with
        | zero => simp at hd hw; subst hd; subst hw; exact g2
        | succ j => exact k4 j d w (by simpa using hd) (by simpa using hw)
    · cases he
  | [], _ :: _, _, _, hr, _ => by simp [resParts] at hr
  | _ :: _, [], _, _, hr, _ => by simp [resParts] at hr

def bldT (P : Program) (ty : Nat) (e : Ty) (n : Nat) : Bool :=
  match P.underlying ty with
  | some (.slice el) => match asize P el, azero P el with
    | some size, some z => Nat.beq size e.size && Nat.beq z.cells.size e.size && Nat.blt 0 e.size && Nat.blt n big && Nat.ble (n * size) 1000000
    | _, _ => false
  | _ => false

theorem yBldS {K : KK} {ty n : Nat} {e : Ty} {parts : Array (Nat × Operand)} {xs : List Od} {ds : List DV} {ys : List e.D} (H : HS E η L h) (S : Slots st h (Fz E.gd η L.m) η t) (hok : okOper P o = true) (ho : o.op = .buildSlice ty n parts) (hT : bldT P ty e n = true)
    (hr : resParts 0 parts.toList xs = true) (he : evs t xs = some ds) (hel : elemsOf e ds = some ys) (hn : ys.length = n) (hK : K (.osl L.nx e 0 n (some n)) (newO L (.arr e ys)) []) : OpE P E o st h η L K := by
  unfold bldT at hT
  split at hT
  rotate_left
  · cases hT
  rename_i el hu
  split at hT
  rotate_left
  · cases hT
  rename_i size z hi hz
  simp only [Bool.and_eq_true] at hT
  obtain ⟨⟨⟨⟨t1, t2⟩, t3⟩, t4⟩, t5⟩ := hT
  have t1 := Nat.eq_of_beq_eq_true t1
  have t2 := Nat.eq_of_beq_eq_true t2
  have t3 : 0 < e.size := by simpa [Nat.blt_eq] using t3
  have t4 : n < big := by simpa [Nat.blt_eq] using t4
  have t5 := Nat.le_of_ble_eq_true t5
  obtain ⟨vs, p1, p2, p3, p4⟩ := parts_sound S _ _ _ _ hr he
  have hdl := elemsOf_len _ _ hel
  have hk : knows st o = true := by rw [knows_eq, ho]; simpa [Op.operands] using p2
  have main : ∃ cs, abuildSlice P h ty n ((List.range' 0 vs.length).zip vs) = some (.slice (some ⟨h.n, 0, none⟩) n n, h.push (.cells cs 0)) ∧ Cells (RdC h (Fz E.gd η L.m) e) cs ys := by
    by_cases h0 : n = 0
    · subst h0
      have hvs : vs = [] := List.eq_nil_of_length_eq_zero (by omega)
      subst hvs
      have hys : ys = [] := List.eq_nil_of_length_eq_zero hn
      subst hys
      refine ⟨[], ?_, rfl⟩
      unfold abuildSlice
      simp only [hu, hi, hz, Nat.zero_mul]
      rw [if_pos ⟨trivial, t4⟩]
      rfl
    · obtain ⟨out, cs, g1, g2, g3⟩ := fill_sound (h := h) (F := Fz E.gd η L.m) (η := η) (size := size) t1 ds vs ys 0 (madeCells z.cells (n * size)) [] hel p3 p4 (by simp) (by rw [size_madeCells, Nat.zero_add, ← hdl, hn]) (by simp)
      refine ⟨cs, ?_, g3⟩
      have hs0 : n * size ≠ 0 := by rw [t1]; exact Nat.mul_ne_zero h0 (by omega)
      unfold abuildSlice
      simp only [hu, hi, hz]
      rw [if_neg (fun hh => hs0 hh.1), if_neg (by simp only [ge_iff_le, Bool.or_eq_true, decide_eq_true_eq, not_or]; omega)]
      rw [g1]
      simp only [g2, List.nil_append]
  obtain ⟨cs, m1, m2⟩ := main
  refine .of (v := .slice (some ⟨h.n, 0, none⟩) n n) (h' := h.push (.cells cs 0)) (.eff hok hk (by unfold apure; rw [ho]) ?_) ?_
  · unfold aeff; rw [ho]
    simp only [p1, m1, w2]; rfl
  · have M := H.mvAlloc (.cells cs 0) (.arr e ys)
    have hcl : cs.length = n * e.size := by rw [Cells.length (fun c x => RdC.length e c x) _ _ m2, hn]
    have := LocR.arr (η := addN η L.nx h.n) (junk := []) (z := 0) (Cells.mono (RdC.mono M.st e) _ _ m2)
    rw [List.append_nil] at this
    refine eff_new H hK this ?_
    refine .osl n (n * e.size) 0 (.inr ⟨rfl, rfl⟩) ?_ (Nat.le_refl _) t4 (fun k hk => by cases hk; exact ⟨rfl, t4⟩) (fun _ => by simp) (fun _ => by omega) (fun hb => absurd t4 hb)
    rw [blen_push]; simp only [AObj.row, Option.map_some, hcl]

theorem bytes_cells : ∀ l : List UInt8, Cells (RdC h F (.int .u8)) (l.map fun b => Value.int .u8 b.toNat) (l.map fun b => ((b.toNat : Nat) : Int))
  | [] => rfl
  | b :: l => ⟨[_], _, rfl, rfl, bytes_cells l⟩

def strInts (s : ByteArray) : List Int := s.data.toList.map fun b => ((b.toNat : Nat) : Int)

theorem yToB {K : KK} {s ty : Nat} {a : Operand} {x : Od} {q : ByteArray} (H : HS E η L h) (S : Slots st h (Fz E.gd η L.m) η t) (hok : okOper P o = true) (ho : o.op = .convert s ty a) (hs : isStrT P s = true) (hb : isBytesT P ty = true) (hr : resOd a x = true) (he : ev t x = some (.str q))
    (hq : q.size < big) (hK : K (.osl L.nx (.int .u8) 0 q.size none) (newO L (.arr (.int .u8) (strInts q))) []) : OpE P E o st h η L K := by
  unfold isStrT at hs
  split at hs
  rotate_left
  · cases hs
  rename_i hus
  unfold isBytesT at hb
  split at hb
  rotate_left
  · cases hb
  rename_i el hut
  split at hb
  rotate_left
  · cases hb
  rename_i hue
  obtain ⟨v, a1, a2⟩ := od_sound S hr he
  cases a2
  have hsz : q.data.toList.length = q.size := by simp
  refine .of (v := .slice (some ⟨h.n, 0, none⟩) q.size big) (h' := h.push (.cells (q.data.toList.map fun b => .int .u8 b.toNat) 1)) (.eff hok (knows1 (by rw [ho]; rfl) a1) ?_ ?_) ?_
  · unfold apure; rw [ho]; simp only [pev_of a1, hus, hut]
  · unfold aeff; rw [ho]; simp only [pev_of a1, aconvert, hus, hut, hue, w2]; rfl
  · have hc := bytes_cells (h := h.push (.cells (q.data.toList.map fun b => .int .u8 b.toNat) 1)) (F := Fz E.gd (addN η L.nx h.n) (newO L (.arr (.int .u8) (strInts q))).m) q.data.toList
    have := LocR.arr (η := addN η L.nx h.n) (junk := []) (z := 1) (e := .int .u8) hc
    rw [List.append_nil] at this
    refine eff_new H hK this ?_
    refine .osl big q.size 0 (.inr ⟨rfl, rfl⟩) ?_ (by omega) hq (fun k hk => by cases hk) (fun _ => by simp) (fun hb => absurd hb (Nat.lt_irrefl _)) (fun _ => ⟨rfl, ?_, by simp [Ty.size]⟩)
    · rw [blen_push]; simp [AObj.row]
    · rw [esz_push]; rfl

end Go.Am

/-
  The data layer: append.
-/
namespace Go.Am
open Go Go.RowKit

variable {P : Program} {o : Oper} {st : PT} {h : AHeap} {G F : Nat → Prop} {η : Nat → Nat → Prop} {t : DT} {L : Own} {side : Option Prop} {d : DV} {E : Env}

def elB (e : Ty) (m : List (Nat × Loc)) (b : DV) : Option (Option Prop × List e.D) :=
  match b with
  | .sl e' s => if h : e' = e then some (none, (h ▸ s : Sl e.D).l) else none
  | .osl j e' off len _ => match lkO m j with
    | some (.arr e'' xs) => if h : e'' = e then if e' = e then some (some (off + len ≤ (h ▸ xs : List e.D).length), ((h ▸ xs : List e.D).drop off).take len) else none else none
    | _ => none
  | .nils => some (none, [])
  | .str s => if h : (.int .u8 : Ty) = e then some (some (s.size < big), (h ▸ (strInts s : List (Ty.int .u8).D) : List e.D)) else none
  | _ => none

theorem elB_sound {e : Ty} {b : DV} {v : Value} {ys : List e.D} (O : OwnR h G η L) (hv : RdV h (Fz G η L.m) η b v) (he : elB e L.m b = some (side, ys)) (hs : ∀ p, side = some p → p) :
    lenOf v = some ys.length ∧ ∃ cs, firstOf h e.size ys.length v = some cs ∧ Cells (RdC h (Fz G η L.m) e) cs ys := by
  unfold elB at he
  split at he
  · split at he
    · rename_i heq
      subst heq
      simp only [Option.some.injEq, Prod.mk.injEq] at he
      obtain ⟨_, rfl⟩ := he
      cases hv with | sl hsl =>
      rcases hsl with ⟨c, rfl, h2, _⟩ | ⟨b, o, c, cs, rfl, _, _, _, _, _, _, h7, h8⟩
      · rw [h2]; exact ⟨rfl, [], rfl, rfl⟩
      · exact ⟨rfl, cs, h7, h8⟩
    · cases he
  · rename_i j e' off len cap
    split at he
    · rename_i e'' xs hj
      split at he
      · rename_i heq
        subst heq
        split at he
        · rename_i heq
          subst heq
          simp only [Option.some.injEq, Prod.mk.injEq] at he
          obtain ⟨rfl, rfl⟩ := he
          have hle : off + len ≤ xs.length := hs _ rfl
          have hlen : ((xs.drop off).take len).length = len := by simp; omega
          rw [hlen]
          cases hv with
          | onil hc ho => exact ⟨rfl, [], rfl, by simp [Cells]⟩
          | osl c n o' h0 h1 h2 h3 h4 h5 h8 h6 =>
            refine ⟨rfl, ?_⟩
            obtain ⟨cs, junk, z, hg, hcs⟩ := own_arr O hj h0
            have hL : ∀ c x, RdC h (Fz G η L.m) e' c x → c.length = e'.size := fun c x => RdC.length e' c x
            have hcl := Cells.length hL _ _ hcs
            by_cases hl0 : len = 0
            · subst hl0
              refine ⟨[], ?_, by simp [Cells]⟩
              have hn : o' ≤ n := by
                by_cases hcb : c < big
                · have := h8 hcb; omega
                · have := (h6 hcb).2.2; omega
              rw [blen_cells hg] at h1
              simp only [Option.some.injEq] at h1
              simp only [firstOf, Nat.zero_mul]
              unfold areadN
              rw [hg]
              simp only [AObj.row, Option.bind_some, takeAt]
              rw [if_pos (by omega)]
              simp
            · have ho' : o' = off * e'.size := h5 (by omega)
              subst ho'
              obtain ⟨g1, g2⟩ := Cells.split hL xs cs off hcs (by omega)
              obtain ⟨g3, _⟩ := Cells.split hL _ _ len g2 (by simp; omega)
              refine ⟨_, ?_, g3⟩
              have hle2 : off * e'.size + len * e'.size ≤ cs.length := by rw [hcl, ← Nat.add_mul]; exact Nat.mul_le_mul_right _ hle
              simp only [firstOf]
              unfold areadN
              rw [hg]
              simp only [AObj.row, Option.bind_some, takeAt]
              rw [if_pos (by simp; omega), List.drop_append_of_le_length (by omega), List.take_append_of_le_length (by simp; omega)]
        · cases he
      · cases he
    · cases he
  · simp only [Option.some.injEq, Prod.mk.injEq] at he
    obtain ⟨_, rfl⟩ := he
    cases hv
    exact ⟨rfl, [], rfl, rfl⟩
  · rename_i s
    split at he
    · rename_i heq
      subst heq
      simp only [Option.some.injEq, Prod.mk.injEq] at he
      obtain ⟨_, rfl⟩ := he
      cases hv
      have hl : (strInts s).length = s.size := by simp [strInts]
      have hl2 : (show List (Ty.int .u8).D from strInts s).length = s.size := hl
      refine ⟨by rw [hl2]; rfl, _, ?_, bytes_cells s.data.toList⟩
      rw [hl2]
      simp only [firstOf]
      have he : s.extract 0 s.size = s := by
        apply ByteArray.ext
        simp
      rw [he]
      simp
    · cases he
  · cases he

/-- A list is given other elements: memory as it was. -/
theorem HS.reloc (H : HS E η L h) {j : Nat} (hf : L.fx ≤ j) {l0 : Loc} {e : Ty} {zs : List e.D} (hj : lkO L.m j = some l0) (hl : ∀ b, η j b → LocR h (Fz E.gd η L.m) η (h.get b) (.arr e zs)) (hn : (∀ b, ¬ η j b) → zs = []) :
    HS E η (Am.renew L j (.arr e zs)) h ∧ Mv E.gd η L h η (Am.renew L j (.arr e zs)) h (Nat.beq j) := by
  have M : Mv E.gd η L h η (Am.renew L j (.arr e zs)) h (Nat.beq j) := by
    refine ⟨fun b hb hF => ⟨hb, ⟨hF.1, fun i x hi => ?_⟩, rfl⟩, .refl⟩
    by_cases hij : i = j
    · subst hij; exact hF.2 i l0 hj
    · rw [renew_ne hij] at hi
      obtain ⟨y, hy, _⟩ := Option.map_eq_some_iff.1 hi
      exact hF.2 i y hy
  refine ⟨⟨⟨fun i x hi => ?_, H.own.lt, H.own.fn, H.own.inj⟩, H.gone, H.le, H.keep, fun i x c hi hη => ?_, H.fix_mv M.kp (fun i hi => beq_no (by omega)) rfl, H.rs, H.bk, H.nm⟩, M⟩
  · by_cases hij : i = j
    · subst hij
      rw [renew_eq hj] at hi
      cases hi
      by_cases hb : ∃ b, η i b
      · obtain ⟨b, hb⟩ := hb
        have := (hl b hb).kill M.st M.kp
        exact .inl ⟨b, hb, this⟩
      · exact .inr ⟨⟨e, zs, rfl, hn (fun b hb' => hb ⟨b, hb'⟩)⟩, H.jlt hj, fun b hb' => hb ⟨b, hb'⟩⟩
    · rw [renew_ne hij] at hi
      obtain ⟨y, hy, rfl⟩ := Option.map_eq_some_iff.1 hi
      rcases H.own.loc i y hy with ⟨c, k1, k2⟩ | ⟨⟨e', xs, k1, k2⟩, k3, k4⟩
      · exact .inl ⟨c, k1, k2.kill M.st M.kp⟩
      · exact .inr ⟨⟨e', xs, by rw [k1]; rfl, k2⟩, k3, k4⟩
  · by_cases hij : i = j
    · subst hij; exact H.mine i l0 c hj hη
    · rw [renew_ne hij] at hi
      obtain ⟨y, hy, _⟩ := Option.map_eq_some_iff.1 hi
      exact H.mine i y c hy hη

theorem memN_one (j : Nat) : memN [j] = Nat.beq j := by
  funext i
  simp only [memN, List.any_cons, List.any_nil, Bool.or_false]
  cases hb : Nat.beq i j with
  | true => have := Nat.eq_of_beq_eq_true hb; subst this; simp
  | false =>
    cases hc : Nat.beq j i with
    | true => have := Nat.eq_of_beq_eq_true hc; subst this; simp at hb
    | false => rfl

/-- One's own list grows. -/
theorem app_own_eff {K : KK} {j len : Nat} {e : Ty} {xs ys : List e.D} {cap cap' : Option Nat} {ats : Array TypeId} {size bytes : Nat} {va vb : Value} {new : List Value} (H : HS E η L h) (hT : appT P ats size bytes = true) (hsz : size = e.size)
    (hva : RdV h (Fz E.gd η L.m) η (.osl j e 0 len cap) va) (hj : lkO L.m j = some (.arr e xs)) (hf : L.fx ≤ j) (hle : len ≤ xs.length) (hlb : lenOf vb = some ys.length) (hfb : firstOf h size ys.length vb = some new) (hcb : Cells (RdC h (Fz E.gd η L.m) e) new ys)
    (hbd : (len + ys.length) * bytes ≤ 140737488355328) (hcap : cap' = none ∨ (∃ c, cap = some c ∧ len + ys.length ≤ c ∧ cap' = some c))
    (hK : K (.osl j e 0 (len + ys.length) cap') (renew L j (.arr e (xs.take len ++ ys))) [j]) : ∃ v h', aappend P h ats va vb = some (v, h') ∧ EffP E h η L K v h' := by
  obtain ⟨hs0, hb0, HA⟩ := appT_spec hT
  have hL : ∀ c x, RdC h (Fz E.gd η L.m) e c x → c.length = e.size := fun c x => RdC.length e c x
  have hnl : new.length = ys.length * size := by rw [hsz]; exact Cells.length hL _ _ hcb
  have hcell : new.all isCell = true := by rw [List.all_eq_true]; exact fun x hx => Cells.cell _ _ hcb x hx
  have hbig : len + ys.length < big := by
    have : len + ys.length ≤ (len + ys.length) * bytes := Nat.le_mul_of_pos_right _ hb0
    unfold big; omega
  have hbd' : ¬ (len + ys.length) * bytes > 140737488355328 := by omega
  -- memory stays as it is
  have same : ∀ v, ys = [] → RdV h (Fz E.gd η L.m) η (.osl j e 0 len cap') v → EffP E h η L K v h := by
    intro v hy hv
    subst hy
    simp only [List.length_nil, Nat.add_zero, List.append_nil] at hK
    obtain ⟨H', M⟩ := H.reloc hf (e := e) (zs := xs.take len) hj (fun b hb => by
      obtain ⟨cs, junk, z, hg, hcs⟩ := own_arr H.own hj hb
      rw [hg]
      have h1 := (Cells.split hL xs cs len hcs hle).1
      have := LocR.arr (η := η) (junk := cs.drop (len * e.size) ++ junk) (z := z) h1
      rwa [← List.append_assoc, List.take_append_drop] at this) (fun hnb => by
      rcases H.own.loc j _ hj with ⟨b, hb, _⟩ | ⟨⟨e', xs', q1, q2⟩, _⟩
      · exact (hnb b hb).elim
      · cases q1; rw [q2]; simp)
    rw [← memN_one] at M
    refine ⟨_, _, [j], η, hK, H', ?_, M⟩
    have hS : Stays h h (Fz E.gd η L.m) (Fz E.gd η (renew L j (.arr e (xs.take len))).m) := M.st
    exact hv.mono hS (fun _ _ _ k => ⟨k, rfl, rfl⟩)
  -- a new block
  have grow : ∀ (h1 : AHeap) (old : List Value), h1.n = h.n → (∀ c, ¬ η j c → h1.get c = h.get c) → cap' = none → Cells (RdC h (Fz E.gd η L.m) e) old (xs.take len) →
      EffP E h η L K (.slice (some ⟨h.n, 0, none⟩) (len + ys.length) big) (h1.push (.cells (old ++ new) size)) := by
    intro h1 old hn hg hc hold
    subst hc
    have M := H.mvRenew (l := .arr e (xs.take len ++ ys)) (o := .cells (old ++ new) size) hj hn hg
    have hcs := Cells.mono (RdC.mono M.st e) _ _ (Cells.append _ _ _ _ hold hcb)
    have hloc := LocR.arr (η := moveN η j h.n) (junk := []) (z := size) hcs
    rw [List.append_nil] at hloc
    have H' := H.renew hj hf hn hg hloc
    rw [← memN_one] at M
    refine ⟨_, _, [j], _, hK, H', ?_, M⟩
    have hol : (old ++ new).length = (len + ys.length) * size := by
      rw [List.length_append, hnl, Cells.length hL _ _ hold, hsz]
      simp only [List.length_take, Nat.min_eq_left hle, Nat.add_mul]
    refine .osl big ((len + ys.length) * size) 0 (.inr ⟨rfl, rfl⟩) ?_ (by omega) hbig (fun k hk => by cases hk) (fun _ => by simp) (fun hb => absurd hb (Nat.lt_irrefl _)) (fun _ => ⟨rfl, ?_, by rw [hsz]; omega⟩)
    · rw [← hn, blen_push]; simp only [AObj.row, Option.map_some, hol]
    · rw [← hn, esz_push, hsz]
  have hAA := fun base sLen sCap => HA h base sLen sCap ys.length vb hlb
  cases hva with
  | onil hc ho =>
    obtain ⟨h0c, hcc⟩ := nil_off hc ho
    subst h0c
    clear hc
    have hc := hcc
    rw [hAA none 0 0]
    simp only [hfb, hnl, ne_eq, not_true_eq_false, if_false, big_pos, if_true]
    rw [if_neg hbd']
    by_cases hy : ys = []
    · subst hy
      have : new = [] := List.eq_nil_of_length_eq_zero (by rw [hnl]; simp)
      subst this
      rw [if_pos (by simp)]
      refine ⟨.slice none 0 0, h, rfl, same _ rfl (.onil0 ?_)⟩
      rcases hcap with q | ⟨c, q1, q2, q3⟩
      · exact .inl q
      · rcases hc with hc | hc
        · rw [hc] at q1; cases q1
        · rw [hc] at q1; cases q1; exact .inr q3
    · have hpos : 0 < ys.length := List.length_pos_iff.2 hy
      rw [if_neg (by omega)]
      simp only [firstOf, List.length_nil, Nat.zero_mul, if_true]
      refine ⟨_, _, rfl, ?_⟩
      refine grow h [] rfl (fun _ _ => rfl) ?_ (by simp [Cells])
      rcases hcap with q | ⟨c, q1, q2, q3⟩
      · exact q
      · rcases hc with hc | hc
        · rw [hc] at q1; cases q1
        · rw [hc] at q1; cases q1; omega
  | @osl _ b _ _ _ _ c n o' h0 h1 h2 h3 h4 h5 h8 h6 =>
    obtain ⟨cs, junk, z, hg, hcs⟩ := own_arr H.own hj h0
    have hcl := Cells.length hL _ _ hcs
    have hbn := blen_cells hg
    rw [h1] at hbn
    simp only [Option.some.injEq, List.length_append] at hbn
    have hlecs : len * e.size ≤ cs.length := by rw [hcl]; exact Nat.mul_le_mul_right _ hle
    have hold0 := (Cells.split hL xs cs len hcs hle).1
    -- what stands there
    have hread : areadN h b o' (len * size) = some (cs.take (len * e.size)) := by
      by_cases hl0 : len = 0
      · subst hl0
        have hn : o' ≤ n := by
          by_cases hcb : c < big
          · have := h8 hcb; omega
          · have := (h6 hcb).2.2; omega
        simp only [Nat.zero_mul, List.take_zero]
        unfold areadN
        rw [hg]
        simp only [AObj.row, Option.bind_some, takeAt]
        rw [if_pos (by simp; omega)]
        simp
      · have : o' = 0 := by have := h5 (by omega); simpa using this
        subst this
        rw [hsz]
        unfold areadN
        rw [hg]
        simp only [AObj.row, Option.bind_some, takeAt]
        rw [if_pos (by simp; omega), List.drop_zero, List.take_append_of_le_length hlecs]
    have holdl : (cs.take (len * e.size)).length = len * size := by rw [hsz]; simp; omega
    rw [hAA (some ⟨b, o', none⟩) len c]
    simp only [hfb, hnl, ne_eq, not_true_eq_false, if_false]
    rw [if_neg hbd']
    by_cases hc : c < big
    · simp only [hc, if_true]
      by_cases hroom : len + ys.length ≤ c
      · rw [if_pos hroom]
        by_cases hy : ys = []
        · subst hy
          have : new = [] := List.eq_nil_of_length_eq_zero (by rw [hnl]; simp)
          subst this
          refine ⟨.slice (some ⟨b, o', none⟩) len c, h, rfl, same _ rfl ?_⟩
          refine .osl c n o' h0 h1 h2 h3 (fun k hk => ?_) h5 h8 h6
          rcases hcap with q | ⟨c1, q1, q2, q3⟩
          · rw [q] at hk; cases hk
          · rw [q3] at hk; cases hk; exact h4 _ q1
        · have hpos : 0 < ys.length := List.length_pos_iff.2 hy
          have : o' = 0 := by have := h5 (by omega); simpa using this
          subst this
          have hroom2 : len * e.size + new.length ≤ n := by
            have := h8 hc
            have h9 := Nat.mul_le_mul_right e.size hroom
            rw [Nat.add_mul] at h9
            rw [hnl, hsz]; omega
          have hne : new ≠ [] := by
            intro hq
            rw [hq, List.length_nil] at hnl
            rcases Nat.mul_eq_zero.1 hnl.symm with hq | hq <;> omega
          have hw : awriteAt h (some ⟨b, 0, none⟩) (len * size) new = some (h.set b (.cells (setAll (cs ++ junk) (len * size) new) z)) := by
            cases new with
            | nil => exact absurd rfl hne
            | cons w r =>
              simp only [awriteAt, awriteN, hg, hcell, Bool.and_true, Nat.zero_add]
              rw [if_pos (by rw [hsz]; simpa using (by omega : len * e.size + (w :: r).length ≤ cs.length + junk.length))]
          rw [hw]
          refine ⟨_, _, rfl, ?_⟩
          have hlen2 : (setAll (cs ++ junk) (len * size) new).length = (cs ++ junk).length := setAll_len _ _ _
          have hbl : (AObj.cells (setAll (cs ++ junk) (len * size) new) z).row.map (·.length) = blen h b := by rw [blen_cells hg]; simp only [AObj.row, Option.map_some, hlen2]
          have hes : eszOf (h.set b (.cells (setAll (cs ++ junk) (len * size) new) z)) b = eszOf h b := by rw [esz_cells hg]; unfold eszOf; rw [AHeap.get_set, if_pos rfl]
          have M := H.mvWrite (l := .arr e (xs.take len ++ ys)) (o := .cells (setAll (cs ++ junk) (len * size) new) z) hj h0 hbl hes
          have heq : setAll (cs ++ junk) (len * size) new = (cs.take (len * e.size) ++ new) ++ (cs ++ junk).drop (len * e.size + new.length) := by
            have hsp : cs ++ junk = cs.take (len * e.size) ++ ((cs ++ junk).drop (len * e.size)).take new.length ++ (cs ++ junk).drop (len * e.size + new.length) := by
              rw [List.append_assoc, ← List.drop_drop, List.take_append_drop]
              rw [← List.take_append_of_le_length (l₂ := junk) hlecs, List.take_append_drop]
            have := setAll_eq new (cs.take (len * e.size)) ((cs ++ junk).drop (len * e.size + new.length)) (((cs ++ junk).drop (len * e.size)).take new.length) (by simp; omega)
            rw [← hsp] at this
            have hpl : (cs.take (len * e.size)).length = len * size := holdl
            rw [hpl] at this
            exact this
          have hcs2 := Cells.mono (RdC.mono M.st e) _ _ (Cells.append _ _ _ _ hold0 hcb)
          have hloc := LocR.arr (η := η) (junk := (cs ++ junk).drop (len * e.size + new.length)) (z := z) hcs2
          rw [← heq] at hloc
          have H1 := H.write hj h0 hbl hes hloc
          have hj1 : lkO (setO L j (.arr e (xs.take len ++ ys))).m j = some (.arr e (xs.take len ++ ys)) := lkO_stO_eq _ hj
          obtain ⟨H2, M2⟩ := HS.reloc (L := setO L j (.arr e (xs.take len ++ ys))) H1 hf (e := e) (zs := xs.take len ++ ys) hj1 (fun b' hb' => by
            have := H.own.fn j b b' h0 hb'
            subst this
            rw [AHeap.get_set, if_pos rfl]
            exact hloc) (fun hnb => (hnb b h0).elim)
          have hsto : ∀ (m : List (Nat × Loc)) (l : Loc), stO (killO (Nat.beq j) (stO m j l)) j l = stO (killO (Nat.beq j) m) j l := by
            intro m l
            induction m with
            | nil => rfl
            | cons x m ih =>
              obtain ⟨k, w⟩ := x
              simp only [stO, killO]
              by_cases hk : j = k
              · subst hk; simp [killO, stO]
              · simp [beq_no hk, killO, stO, ih]
          have hren : renew (setO L j (.arr e (xs.take len ++ ys))) j (.arr e (xs.take len ++ ys)) = renew L j (.arr e (xs.take len ++ ys)) := by
            unfold renew setO
            simp only [hsto]
          rw [hren] at H2 M2
          refine ⟨_, _, [j], η, hK, H2, ?_, ⟨fun c' hc' hF => ?_, fun i c' hp hη => ?_⟩⟩
          · have hbl2 : blen (h.set b (.cells (setAll (cs ++ junk) (len * size) new) z)) b = some n := by
              unfold blen; rw [AHeap.get_set, if_pos rfl, hbl, h1]
            refine .osl c n 0 h0 hbl2 hroom hbig (fun k hk => ?_) (fun _ => by simp) h8 (fun hb => absurd hc hb)
            rcases hcap with q | ⟨c1, q1, q2, q3⟩
            · rw [q] at hk; cases hk
            · rw [q3] at hk; cases hk; exact h4 _ q1
          · obtain ⟨a1, a2, a3⟩ := M.st c' hc' hF
            obtain ⟨b1, b2, b3⟩ := M2.st c' a1 a2
            exact ⟨b1, b2, b3.trans a3⟩
          · rw [memN_one] at hp
            obtain ⟨a1, a2, a3⟩ := M.kp i c' rfl hη
            exact ⟨a1, a2, a3⟩
      · rw [if_neg hroom]
        have hfo : firstOf h size len (.slice (some ⟨b, o', none⟩) len c) = some (cs.take (len * e.size)) := by simp only [firstOf]; exact hread
        rw [hfo]
        simp only [holdl, if_true]
        refine ⟨_, _, rfl, grow h _ rfl (fun _ _ => rfl) ?_ hold0⟩
        rcases hcap with q | ⟨c1, q1, q2, q3⟩
        · exact q
        · have := (h4 _ q1).1; omega
    · obtain ⟨rfl, hesz, hlen⟩ := h6 hc
      rw [if_neg (Nat.lt_irrefl _), if_pos rfl]
      by_cases hy : ys = []
      · subst hy
        have : new = [] := List.eq_nil_of_length_eq_zero (by rw [hnl]; simp)
        subst this
        simp only [List.length_nil, if_true]
        refine ⟨_, _, rfl, same _ rfl ?_⟩
        refine .osl big n o' h0 h1 h2 h3 (fun k hk => ?_) h5 h8 h6
        rcases hcap with q | ⟨c1, q1, q2, q3⟩
        · rw [q] at hk; cases hk
        · have := h4 _ q1; omega
      · have hpos : 0 < ys.length := List.length_pos_iff.2 hy
        rw [if_neg (by omega), hread, hesz, hsz]
        simp only [hcell, and_self, if_true]
        refine ⟨_, _, rfl, ?_⟩
        rw [← hsz]
        rw [← hsz] at hold0
        refine grow (h.set b .dead) _ (by simp) (fun c' hc' => ?_) ?_ hold0
        · rw [AHeap.get_set, if_neg]; rintro rfl; exact hc' h0
        · rcases hcap with q | ⟨c1, q1, q2, q3⟩
          · exact q
          · have := h4 _ q1; omega

end Go.Am

/-
  The data layer: append to frozen slices; comparisons with nil.
-/
namespace Go.Am
open Go Go.RowKit

variable {P : Program} {o : Oper} {st : PT} {h : AHeap} {G F : Nat → Prop} {η : Nat → Nat → Prop} {t : DT} {L : Own} {side : Option Prop} {d : DV} {E : Env}

/-- A block that is not one's own any more from the beginning. -/
theorem HS.push (H : HS E η L h) (ob : AObj) : HS E η L (h.push ob) ∧ Mv E.gd η L h η L (h.push ob) fun _ => false := by
  have M : Mv E.gd η L h η L (h.push ob) fun _ => false := by
    refine ⟨fun b hb hF => ⟨by simp; omega, hF, by rw [AHeap.get_push, if_neg (by omega)]⟩, fun j b _ hη => ⟨hη, ?_, ?_⟩⟩
    · have := (H.own.lt j b hη).2
      unfold blen; rw [AHeap.get_push, if_neg (by omega)]
    · have := (H.own.lt j b hη).2
      unfold eszOf; rw [AHeap.get_push, if_neg (by omega)]
  refine ⟨⟨⟨fun j x hj => ?_, fun j b hη => ?_, H.own.fn, H.own.inj⟩, fun b hb => ?_, ?_, fun b hb hO => ?_, H.mine, H.fix_mv M.kp (fun _ _ => rfl) rfl, H.rs, H.bk, H.nm⟩, M⟩
  · rcases H.own.loc j x hj with ⟨b, h1, h2⟩ | h1
    · have := (H.own.lt j b h1).2
      exact .inl ⟨b, h1, by rw [AHeap.get_push, if_neg (by omega)]; exact h2.mono M.st M.kp⟩
    · exact .inr h1
  · have := H.own.lt j b hη; simp; omega
  · rw [AHeap.get_push, if_neg (by simp at hb; omega)]; exact H.gone b (by simp at hb; omega)
  · simp; have := H.le; omega
  · rw [AHeap.get_push, if_neg (by have := H.le; omega)]; exact H.keep b hb hO

theorem fz_new (H : HS E η L h) : Fz E.gd η L.m h.n := ⟨.inl H.le, fun j _ _ hη => by have := (H.own.lt j _ hη).2; omega⟩

theorem sl_new (H : HS E η L h) {e : Ty} {xs : List e.D} {cs : List Value} (hc : Cells (RdC h (Fz E.gd η L.m) e) cs xs) (hb : xs.length < big) :
    RdV (h.push (.cells cs e.size)) (Fz E.gd η L.m) η (.sl e ⟨xs, none⟩) (.slice (some ⟨h.n, 0, none⟩) xs.length big) := by
  obtain ⟨_, M⟩ := H.push (.cells cs e.size)
  have hcl : cs.length = xs.length * e.size := Cells.length (fun c x => RdC.length e c x) _ _ hc
  refine .sl (.inr ⟨h.n, 0, big, cs, rfl, by simp, fz_new H, by have := big_pos; exact Nat.le_of_lt hb, hb, fun k hk => (by cases hk), fun _ => ⟨rfl, by rw [esz_push]⟩, ?_, Cells.mono (RdC.mono M.st e) _ _ hc⟩)
  unfold areadN
  rw [AHeap.get_push, if_pos rfl]
  simp only [AObj.row, Option.bind_some, takeAt]
  rw [if_pos (by rw [← hcl]; simp), ← hcl]
  simp

theorem app_frozen_eff {K : KK} {e : Ty} {s : Sl e.D} {ys : List e.D} {ats : Array TypeId} {size bytes c : Nat} {va vb : Value} {new : List Value} (H : HS E η L h) (hT : appT P ats size bytes = true) (hsz : size = e.size)
    (hva : RdV h (Fz E.gd η L.m) η (.sl e s) va) (hlb : lenOf vb = some ys.length) (hfb : firstOf h size ys.length vb = some new) (hcb : Cells (RdC h (Fz E.gd η L.m) e) new ys)
    (hbd : (s.l.length + ys.length) * bytes ≤ 140737488355328) (hcap : s.cap = some c) (hm : ys.length = 0 ∨ c < s.l.length + ys.length)
    (hK : K (.sl e ⟨s.l ++ ys, none⟩) L []) : ∃ v h', aappend P h ats va vb = some (v, h') ∧ EffP E h η L K v h' := by
  obtain ⟨hs0, hb0, HA⟩ := appT_spec hT
  have hL : ∀ c x, RdC h (Fz E.gd η L.m) e c x → c.length = e.size := fun c x => RdC.length e c x
  have hnl : new.length = ys.length * size := by rw [hsz]; exact Cells.length hL _ _ hcb
  have hbig : s.l.length + ys.length < big := by
    have : s.l.length + ys.length ≤ (s.l.length + ys.length) * bytes := Nat.le_mul_of_pos_right _ hb0
    unfold big; omega
  have hbd' : ¬ (s.l.length + ys.length) * bytes > 140737488355328 := by omega
  have same : ∀ v, ys = [] → RdV h (Fz E.gd η L.m) η (.sl e ⟨s.l, none⟩) v → EffP E h η L K v h := by
    intro v hy hv
    subst hy
    rw [List.append_nil] at hK
    exact ⟨_, _, [], η, hK, H, hv, .refl⟩
  have grow : ∀ old : List Value, Cells (RdC h (Fz E.gd η L.m) e) old s.l → EffP E h η L K (.slice (some ⟨h.n, 0, none⟩) (s.l.length + ys.length) big) (h.push (.cells (old ++ new) size)) := by
    intro old hold
    have hc := Cells.append _ _ _ _ hold hcb
    have := sl_new H hc (by simpa using hbig)
    rw [List.length_append] at this
    rw [hsz]
    exact ⟨_, _, [], η, hK, (H.push _).1, this, (H.push _).2⟩
  have hAA := fun base sLen sCap => HA h base sLen sCap ys.length vb hlb
  cases hva with | sl hsl =>
  rcases hsl with ⟨c0, rfl, h2, h3⟩ | ⟨b, o', c0, cs, rfl, g2, g3, g4, g5, g6, gz, g7, g8⟩
  · have hl0 : s.l.length = 0 := by rw [h2]; rfl
    rw [hl0] at hbd' hbig hm
    have hc0 : c = 0 := by
      rcases h3 with ⟨_, q | q⟩ | ⟨_, q⟩ <;> rw [q] at hcap <;> cases hcap
      rfl
    subst hc0
    have nl : RdV h (Fz E.gd η L.m) η (.sl e ⟨s.l, none⟩) (.slice none 0 c0) := by
      refine .sl (.inl ⟨c0, rfl, h2, ?_⟩)
      rcases h3 with ⟨q, _⟩ | ⟨q, _⟩
      · exact .inl ⟨q, .inl rfl⟩
      · exact .inr ⟨q, rfl⟩
    rw [hAA none 0 c0]
    simp only [hfb, hnl, ne_eq, not_true_eq_false, if_false]
    rw [if_neg hbd']
    rcases h3 with ⟨q | q, _⟩ | ⟨_, q⟩
    · subst q
      simp only [big_pos, if_true]
      by_cases hy : ys = []
      · subst hy
        have : new = [] := List.eq_nil_of_length_eq_zero (by rw [hnl]; simp)
        subst this
        rw [if_pos (by simp)]
        exact ⟨.slice none 0 0, h, rfl, same _ rfl nl⟩
      · have hpos : 0 < ys.length := List.length_pos_iff.2 hy
        rw [if_neg (by omega)]
        simp only [firstOf, List.length_nil, Nat.zero_mul, if_true]
        refine ⟨_, _, rfl, ?_⟩
        have := grow [] (by rw [h2]; rfl)
        rw [hl0] at this
        exact this
    · subst q
      rw [if_neg (by omega), if_neg (by omega), if_pos (by simp)]
      by_cases hy : ys = []
      · subst hy
        have : new = [] := List.eq_nil_of_length_eq_zero (by rw [hnl]; simp)
        subst this
        simp only [List.length_nil, if_true]
        exact ⟨_, _, rfl, same _ rfl nl⟩
      · have hpos : 0 < ys.length := List.length_pos_iff.2 hy
        rw [if_neg (by omega)]
        refine ⟨_, _, rfl, ?_⟩
        have := grow [] (by rw [h2]; rfl)
        rw [hl0, Nat.zero_add] at this
        exact this
    · rw [q] at hcap; cases hcap
  · obtain ⟨rfl, hcb2⟩ := g6 c hcap
    rw [hAA (some ⟨b, o', none⟩) s.l.length c0]
    simp only [hfb, hnl, ne_eq, not_true_eq_false, if_false, hcb2, if_true]
    rw [if_neg hbd']
    by_cases hy : ys = []
    · subst hy
      have : new = [] := List.eq_nil_of_length_eq_zero (by rw [hnl]; simp)
      subst this
      rw [if_pos (by simpa using g4)]
      refine ⟨.slice (some ⟨b, o', none⟩) s.l.length c0, h, rfl, same _ rfl ?_⟩
      exact .sl (.inr ⟨b, o', c0, cs, rfl, g2, g3, g4, g5, fun k hk => (by cases hk), gz, g7, g8⟩)
    · have hpos : 0 < ys.length := List.length_pos_iff.2 hy
      rw [if_neg (by omega)]
      have hfo : firstOf h size s.l.length (.slice (some ⟨b, o', none⟩) s.l.length c0) = some cs := by simp only [firstOf, hsz]; exact g7
      have hcl : cs.length = s.l.length * size := by rw [hsz]; exact Cells.length hL _ _ g8
      rw [hfo]
      simp only [hcl, if_true]
      exact ⟨_, _, rfl, grow cs g8⟩

/-- A name without a block. -/
theorem HS.addNil (H : HS E η L h) (e : Ty) : HS E η (newO L (.arr e [])) h ∧ Mv E.gd η L h η (newO L (.arr e [])) h fun _ => false := by
  have M : Mv E.gd η L h η (newO L (.arr e [])) h fun _ => false := by
    refine ⟨fun b hb hF => ⟨hb, ⟨hF.1, fun j x hj hη => ?_⟩, rfl⟩, .refl⟩
    by_cases hjn : j = L.nx
    · have := (H.own.lt j b hη).1; omega
    · rw [show lkO (newO L (.arr e [])).m j = lkO L.m j from lkO_cons_ne hjn] at hj
      exact hF.2 j x hj hη
  refine ⟨⟨⟨fun j x hj => ?_, fun j b hη => ?_, H.own.fn, H.own.inj⟩, H.gone, H.le, H.keep, fun j x b hj hη => ?_, H.fix_mv M.kp (fun _ _ => rfl) rfl, H.rs, ⟨Nat.le_succ_of_le H.bk.1, H.bk.2⟩, H.nm⟩, M⟩
  · by_cases hjn : j = L.nx
    · subst hjn
      rw [show lkO (newO L (.arr e [])).m L.nx = some (.arr e []) from lkO_cons_eq] at hj
      cases hj
      exact .inr ⟨⟨e, [], rfl, rfl⟩, by simp [newO], fun b hb => by have := (H.own.lt _ b hb).1; omega⟩
    · rw [show lkO (newO L (.arr e [])).m j = lkO L.m j from lkO_cons_ne hjn] at hj
      rcases H.own.loc j x hj with ⟨b, h1, h2⟩ | ⟨h1, h2, h3⟩
      · exact .inl ⟨b, h1, h2.mono M.st M.kp⟩
      · exact .inr ⟨h1, by simp [newO]; omega, h3⟩
  · have := H.own.lt j b hη; simp [newO]; omega
  · have := (H.own.lt j b hη).1
    rw [show lkO (newO L (.arr e [])).m j = lkO L.m j from lkO_cons_ne (by omega)] at hj
    exact H.mine j x b hj hη

theorem app_nil_eff {K : KK} {e : Ty} {ys : List e.D} {ats : Array TypeId} {size bytes : Nat} {vb : Value} {new : List Value} (H : HS E η L h) (hT : appT P ats size bytes = true) (hsz : size = e.size)
    (hlb : lenOf vb = some ys.length) (hfb : firstOf h size ys.length vb = some new) (hcb : Cells (RdC h (Fz E.gd η L.m) e) new ys) (hbd : ys.length * bytes ≤ 140737488355328)
    (hK : K (.osl L.nx e 0 ys.length none) (newO L (.arr e ys)) []) : ∃ v h', aappend P h ats (.slice none 0 0) vb = some (v, h') ∧ EffP E h η L K v h' := by
  obtain ⟨hs0, hb0, HA⟩ := appT_spec hT
  have hnl : new.length = ys.length * size := by rw [hsz]; exact Cells.length (fun c x => RdC.length e c x) _ _ hcb
  have hbig : ys.length < big := by
    have : ys.length ≤ ys.length * bytes := Nat.le_mul_of_pos_right _ hb0
    unfold big; omega
  rw [HA h none 0 0 ys.length vb hlb]
  simp only [hfb, hnl, ne_eq, not_true_eq_false, if_false, big_pos, if_true]
  rw [if_neg (by rw [Nat.zero_add]; omega)]
  by_cases hy : ys = []
  · subst hy
    have : new = [] := List.eq_nil_of_length_eq_zero (by rw [hnl]; simp)
    subst this
    rw [if_pos (by simp)]
    exact ⟨.slice none 0 0, h, rfl, _, _, [], η, hK, (H.addNil e).1, .onil0 (.inl rfl), (H.addNil e).2⟩
  · have hpos : 0 < ys.length := List.length_pos_iff.2 hy
    rw [if_neg (by omega)]
    simp only [firstOf, List.length_nil, Nat.zero_mul, if_true, List.nil_append, Nat.zero_add]
    refine ⟨_, _, rfl, ?_⟩
    have M := H.mvAlloc (.cells new size) (.arr e ys)
    have := LocR.arr (η := addN η L.nx h.n) (junk := []) (z := size) (Cells.mono (RdC.mono M.st e) _ _ hcb)
    rw [List.append_nil] at this
    refine eff_new H hK this ?_
    refine .osl big (ys.length * size) 0 (.inr ⟨rfl, rfl⟩) ?_ (Nat.le_of_lt hbig) hbig (fun k hk => by cases hk) (fun _ => by simp) (fun hb => absurd hb (Nat.lt_irrefl _)) (fun _ => ⟨rfl, ?_, by rw [hsz]; omega⟩)
    · rw [blen_push]; simp only [AObj.row, Option.map_some, hnl]
    · rw [esz_push, hsz]

end Go.Am

