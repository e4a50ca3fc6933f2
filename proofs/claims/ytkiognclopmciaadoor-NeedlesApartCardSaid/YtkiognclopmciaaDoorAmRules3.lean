/-
  The logic: equality of other values than numbers; a closed call that returns true.
-/
import Derived.Test.YtkiognclopmciaaDoorAmRules2
namespace Go.Am
open Go Go.RowKit

variable {P : Program} {n0 n : Nat} {t : PT} {h h' h0 : AHeap} {o : Oper} {v x y : Value} {L L' : List AObj}

theorem bEqlB {ty : Nat} {a b : Bool} (hu : P.underlying ty = some .bool) : abinOp P .eql ty (.bool a) (.bool b) = some (.bool (a == b)) := by
  simp [abinOp, noGuard, aequal, hu, asame]
theorem bNeqB {ty : Nat} {a b : Bool} (hu : P.underlying ty = some .bool) : abinOp P .neq ty (.bool a) (.bool b) = some (.bool (!(a == b))) := by
  simp [abinOp, noGuard, aequal, hu, asame]
theorem bEqlS {ty : Nat} {a b : ByteArray} : abinOp P .eql ty (.string a) (.string b) = some (.bool (a.toList == b.toList)) := by simp [abinOp]
theorem bNeqS {ty : Nat} {a b : ByteArray} : abinOp P .neq ty (.string a) (.string b) = some (.bool (!(a.toList == b.toList))) := by simp [abinOp]

def andAll : List (Option Bool) → Option Bool
  | [] => some true
  | none :: _ => none
  | some true :: r => andAll r
  | some false :: _ => some false

theorem andAll_some : ∀ bs : List Bool, andAll (bs.map some) = some (bs.all id)
  | [] => rfl
  | true :: r => by simp [andAll, andAll_some r]
  | false :: r => by simp [andAll]

def eqField (P : Program) (d : Nat) (xs ys : Array Value) (f : Field) : Option Bool :=
  match apart P f.type xs f.offset, apart P f.type ys f.offset with
  | some a, some b => aequal P d f.type a b
  | _, _ => none

theorem aeqFields_all (d : Nat) (xs ys : Array Value) : ∀ fs : List Field, (fs.all fun f => !(f.name == "_")) = true → aeqFields P (aequal P d) xs ys fs = andAll (fs.map (eqField P d xs ys))
  | [], _ => rfl
  | f :: fs, hn => by
    simp only [List.all_cons, Bool.and_eq_true, Bool.not_eq_true', beq_eq_false_iff_ne, ne_eq] at hn
    have ih := aeqFields_all d xs ys fs hn.2
    simp only [aeqFields, hn.1, if_false, List.map_cons, eqField]
    cases apart P f.type xs f.offset with
    | none => rfl
    | some a =>
      cases apart P f.type ys f.offset with
      | none => rfl
      | some b =>
        simp only
        cases aequal P d f.type a b with
        | none => rfl
        | some r => cases r <;> simp [andAll, ih]

theorem aequal_struct {ty : Nat} {xs ys : Array Value} {fs : Array Field} {bs : List Bool} (hu : P.underlying ty = some (.struct fs)) (hst : P.stoodInHeld ty = false) (hn : (fs.toList.all fun f => !(f.name == "_")) = true)
    (hl : fs.toList.map (eqField P 99 xs ys) = bs.map some) : aequal P (99 + 1) ty (.agg xs) (.agg ys) = some (bs.all id) := by
  have e : aequal P (99 + 1) ty (.agg xs) (.agg ys) = if P.stoodInHeld ty then none else aeqFields P (aequal P 99) xs ys fs.toList := by
    show (match P.underlying ty, Value.agg xs, Value.agg ys with
      | some (.struct fields), .agg xs, .agg ys => if P.stoodInHeld ty then none else aeqFields P (aequal P 99) xs ys fields.toList
      | some (.slice _), .slice none _ _, .slice b _ _ => some b.isNone
      | some (.slice _), .slice _ _ _, .slice none _ _ => some false
      | some (.func ..), .nilFunc, .nilFunc => some true
      | some (.func ..), .nilFunc, .func .. => some false
      | some (.func ..), .func .., .nilFunc => some false
      | some (.pointer _), .pointer none, .pointer b => some b.isNone
      | some (.pointer _), .pointer _, .pointer none => some false
      | some d, x, y => asame d x y
      | none, _, _ => none) = _
    rw [hu]
  rw [e, if_neg (by simp [hst]), aeqFields_all 99 xs ys _ hn, hl, andAll_some]

theorem bEqlStruct {ty : Nat} {xs ys : List Value} {fs : Array Field} {bs : List Bool} (hg : noGuard P ty (.agg xs.toArray) = true) (hu : P.underlying ty = some (.struct fs)) (hst : P.stoodInHeld ty = false) (hn : (fs.toList.all fun f => !(f.name == "_")) = true)
    (hl : fs.toList.map (eqField P 99 xs.toArray ys.toArray) = bs.map some) : abinOp P .eql ty (.agg xs.toArray) (.agg ys.toArray) = some (.bool (bs.all id)) := by
  show (if noGuard P ty (.agg xs.toArray) = true then (aequal P (99 + 1) ty (.agg xs.toArray) (.agg ys.toArray)).map Value.bool else none) = _
  rw [if_pos hg, aequal_struct hu hst hn hl]; rfl

theorem bNeqStruct {ty : Nat} {xs ys : List Value} {fs : Array Field} {bs : List Bool} (hg : noGuard P ty (.agg xs.toArray) = true) (hu : P.underlying ty = some (.struct fs)) (hst : P.stoodInHeld ty = false) (hn : (fs.toList.all fun f => !(f.name == "_")) = true)
    (hl : fs.toList.map (eqField P 99 xs.toArray ys.toArray) = bs.map some) : abinOp P .neq ty (.agg xs.toArray) (.agg ys.toArray) = some (.bool (!(bs.all id))) := by
  show (if noGuard P ty (.agg xs.toArray) = true then (aequal P (99 + 1) ty (.agg xs.toArray) (.agg ys.toArray)).map (fun r => Value.bool (!r)) else none) = _
  rw [if_pos hg, aequal_struct hu hst hn hl]; rfl

/-- A closed call that returns true, in any heap. -/
theorem ACalls.ofTrue {f : FuncId} (hc : ∀ w : World, P.globals.size ≤ w.heap.size → Calls P f #[] w fun e w' => e = .returned (.bool true) ∧ Below w.heap.size w w') (h : AHeap) : ACalls P f [] h (Pure (.bool true) h) := by
  intro ρ w0 w args' Hh hl
  have hargs : args' = #[] := by
    have := hl.nil_left
    exact Array.toList_eq_nil_iff.1 this
  subst hargs
  have hG : P.globals.size ≤ w.heap.size := by
    rcases Nat.eq_zero_or_pos P.globals.size with h0 | h0
    · omega
    · obtain ⟨p, hp, hb, _⟩ := Hh.glob (P.globals.size - 1) (by omega)
      have := (Hh.obj _ p hp).1
      omega
  refine (hc w hG).mono ?_
  rintro e w' ⟨rfl, hB⟩
  have hB0 : Below w0.heap.size w0 w' := by
    refine Hh.below.trans ⟨hB.os, hB.tape, hB.output, hB.size, fun k hk => hB.block k ?_⟩
    have := Hh.below.size
    omega
  exact ⟨ρ, .bool true, .bool true, h, ⟨rfl, rfl⟩, rfl, .refl ρ, Hh.turn hB0 hB.size (fun b p hp _ => hB.block p.b (Hh.obj b p hp).1), .bool true⟩

/-- A contract of a call that returns true is what the statements ask. -/
theorem ACalls.true {f : FuncId} {args : List Value} {h : AHeap} {ρ : Ren} {w0 w : World} {args' : Array Value} (H : ACalls P f args h (Pure (.bool true) h)) (Hh : HR P ρ w0 h w) (hl : LR ρ args args'.toList) :
    Calls P f args' w fun e w' => e = .returned (.bool true) ∧ Below w0.heap.size w0 w' := by
  refine (H ρ w0 w args' Hh hl).mono ?_
  rintro e w' ⟨ρ', v, v', h', ⟨rfl, rfl⟩, rfl, _, H', hv⟩
  cases hv
  exact ⟨rfl, H'.below⟩

end Go.Am
