/-
  The data layer: a law's arguments, and its call.
-/
import Derived.Test.YtpchlfmlolkeeaaD25
set_option linter.unusedSimpArgs false
set_option linter.unusedVariables false
namespace Go.Am
open Go Go.RowKit Go.ChangeShapes Go.WideShapes Go.ChangeAt

variable {P : Program} {H : Type} {enc : TypeId × Value → H} {W : World}

def ArgsD : List Ty → Type
  | [] => Unit
  | τ :: r => τ.D × ArgsD r

def argDV (τ : Ty) (y : τ.D) : DV := bif τ.isAgg then .agg (flat τ y) else (flat τ y).getD 0 .any

def dvs : (τs : List Ty) → ArgsD τs → List DV
  | [], _ => []
  | τ :: r, (y, ys) => argDV τ y :: dvs r ys

def wfs : (τs : List Ty) → ArgsD τs → Prop
  | [], _ => True
  | τ :: r, (y, ys) => wfD τ y ∧ wfs r ys

def tysOk (P : Program) : List TypeId → List Ty → Bool
  | [], [] => true
  | t :: ts, τ :: τs => tyOk P 20 t τ && tysOk P ts τs
  | _, _ => false

theorem okWide_tyOk {d : Nat} {t : TypeId} {τ : Ty} {v : Value} {r : Reach} {b : Nat} (hok : tyOk P d t τ = true) (hv : Value.okWide P W r b t v) : if τ.isAgg then ∃ cs, v = .agg cs else v.cells = #[v] := by
  cases d with
  | zero => simp [tyOk] at hok
  | succ d =>
    unfold tyOk at hok
    split at hok
    · rename_i k hu
      simp only [decide_eq_true_eq] at hok
      subst hok
      obtain ⟨n, rfl⟩ := okWide_int hu hv
      simp [Ty.isAgg, Value.cells]
    · rename_i hu
      simp only [decide_eq_true_eq] at hok
      subst hok
      obtain ⟨n, rfl⟩ := okWide_bool hu hv
      simp [Ty.isAgg, Value.cells]
    · rename_i hu
      simp only [decide_eq_true_eq] at hok
      subst hok
      obtain ⟨n, rfl⟩ := okWide_string hu hv
      simp [Ty.isAgg, Value.cells]
    · rename_i e hu
      obtain ⟨a, l, c, rfl⟩ := okWide_slice hu hv
      split at hok
      · simp [Ty.isAgg, Value.cells]
      · cases hok
    · rename_i fs hu
      obtain ⟨cs, rfl, _⟩ := okWide_struct hu hv
      simp only [Bool.and_eq_true] at hok
      cases τ with
      | unit => simp [Ty.isAgg]
      | pair a b => simp [Ty.isAgg]
      | _ => exfalso; have := hok.1; revert this; cases fs.toList <;> simp [fldsOk]
    · cases hok

theorem open_arg {t : TypeId} {τ : Ty} {v : Value} {d : DataW H} {ps : List MemPlace} {r : Reach} {b : Nat} (hok : tyOk P 20 t τ = true) (hv : Value.okWide P W r b t v) (h : DataW.Trod enc P W 0 (fun _ => true) true t v d ps)
    (hw : (d.weights P t).all (· ≤ reachBytes) = true) (ρ : Ren) (h0 : AHeap) (Hh : HR P ρ W h0 W) :
    ∃ ρ' h' v' y, Opn P W ρ ρ' h0 h' ∧ VR ρ' v' v ∧ RdV h' (isRo h') (fun _ _ => False) (argDV τ y) v' ∧ wfD τ y := by
  obtain ⟨fuel, hx⟩ := h
  obtain ⟨ρ', h', cs', y, O, lr, q, w⟩ := open_ty 20 t τ hok fuel _ _ ρ h0 Hh hx hw
  have hs := okWide_tyOk hok hv
  have hp := flat_sound (η := fun _ _ => False) τ cs' y q
  cases ha : τ.isAgg with
  | true =>
    rw [ha] at hs
    simp only [if_true] at hs
    obtain ⟨cs, rfl⟩ := hs
    refine ⟨ρ', h', .agg cs'.toArray, y, O, ?_, ?_, w⟩
    · have := VR.agg_of lr
      simpa [Value.cells] using this
    · unfold argDV
      rw [ha]
      exact hp.agg
  | false =>
    rw [ha] at hs
    simp only [Bool.false_eq_true, if_false] at hs
    rw [hs] at lr
    obtain ⟨v', hcs, hrd⟩ := flat_one (η := fun _ _ => False) ha q
    subst hcs
    obtain ⟨y', ys', e1, hvr, _⟩ := lr.uncons
    simp at e1
    obtain ⟨rfl, _⟩ := e1
    refine ⟨ρ', h', v', y, O, hvr, ?_, w⟩
    unfold argDV
    rw [ha]
    exact hrd

theorem open_args : ∀ (ts : List TypeId) (τs : List Ty) (vs : List Value) (ds : List (DataW H)) (ps : List MemPlace), tysOk P ts τs = true → (∀ (j : Nat) (t : TypeId) (v : Value), ts[j]? = some t → vs[j]? = some v → ∃ r b, Value.okWide P W r b t v) →
    DataW.TrodAll enc P W 0 (fun _ => true) true ts vs ds ps → (DataW.weightsEach P ts ds).all (· ≤ reachBytes) = true → ∀ (ρ : Ren) (h : AHeap), HR P ρ W h W →
    ∃ ρ' h' vs' ys, Opn P W ρ ρ' h h' ∧ LR ρ' vs' vs ∧ PV h' (isRo h') (fun _ _ => False) (dvs τs ys) vs' ∧ wfs τs ys
  | [], [], vs, ds, ps, _, _, hA, _, ρ, h, Hh => by
    obtain ⟨rfl, _, _⟩ := trodAll_nil hA
    exact ⟨ρ, h, [], (), ⟨.refl _, Hh, .refl _⟩, .nil _, .nil, trivial⟩
  | t :: ts, τ :: τs, vs, ds, ps, hok, hval, hA, hw, ρ, h, Hh => by
    simp only [tysOk, Bool.and_eq_true] at hok
    obtain ⟨v0, vs0, d0, ds0, p0, q0, rfl, rfl, rfl, h0, r0⟩ := trodAll_cons hA
    simp only [DataW.weightsEach, List.all_append, Bool.and_eq_true] at hw
    obtain ⟨r, b, hv0⟩ := hval 0 t v0 rfl rfl
    obtain ⟨ρ1, h1, v1, y1, O1, hvr, hrd, w1⟩ := open_arg hok.1 hv0 h0 hw.1 ρ h Hh
    obtain ⟨ρ2, h2, vs2, ys2, O2, lr2, pv2, w2⟩ := open_args ts τs vs0 ds0 q0 hok.2 (fun j t v ht hv => hval (j + 1) t v (by simpa using ht) (by simpa using hv)) r0 hw.2 ρ1 h1 O1.hr
    refine ⟨ρ2, h2, v1 :: vs2, (y1, ys2), ⟨O1.sub.trans O2.sub, O2.hr, O1.ext.trans O2.ext⟩, .cons (hvr.mono O2.sub) lr2, ?_, w1, w2⟩
    exact PV.cons (hrd.mono O2.ext.stays (fun j b _ hη => hη.elim)) pv2
  | [], _ :: _, _, _, _, hok, _, _, _, _, _, _ => by simp [tysOk] at hok
  | _ :: _, [], _, _, _, hok, _, _, _, _, _, _ => by simp [tysOk] at hok

theorem trod_len : ∀ (ts : List TypeId) (vs : List Value) (ds : List (DataW H)) (ps : List MemPlace), DataW.TrodAll enc P W 0 (fun _ => true) true ts vs ds ps → ds.length = ts.length
  | [], vs, ds, ps, hA => by obtain ⟨_, rfl, _⟩ := trodAll_nil hA; rfl
  | t :: ts, vs, ds, ps, hA => by
    obtain ⟨v0, vs0, d0, ds0, p0, q0, rfl, rfl, rfl, h0, r0⟩ := trodAll_cons hA
    simp [trod_len ts vs0 ds0 q0 r0]

/-- A law that is true of all data is true of all arguments. -/
theorem law_calls {f : Nat} {ts : List TypeId} {τs : List Ty} {args : Array Value} {ds : List (DataW H)} {ps : List MemPlace} (L : ∀ ys, wfs τs ys → PCalls P f (dvs τs ys) fun d => d = .bool true) (hok : tysOk P ts τs = true)
    (hval : ∀ (j : Nat) (t : TypeId) (v : Value), ts[j]? = some t → args.toList[j]? = some v → ∃ r b, Value.okWide P W r b t v) (hA : DataW.TrodAll enc P W 0 (fun _ => true) true ts args.toList ds ps)
    (hw : (DataW.weightsEach P ts ds).all (· ≤ reachBytes) = true) (hG : P.globals.size ≤ W.heap.size) :
    Calls P f args W fun e w' => e = .returned (.bool true) ∧ Below W.heap.size W w' := by
  obtain ⟨ρ', h', vs', ys, O, lr, pv, w⟩ := open_args ts τs args.toList ds ps hok hval hA hw _ _ (HR.start (w := W) hG)
  exact PCalls.calls (L ys w) O.hr pv lr

/-- The arguments read as they did. -/
theorem args_stay (hl : laidOutB P = true) : ∀ (ts : List TypeId) (vs : List Value) (ds : List (DataW H)) (ps : List MemPlace), (ts.all fun t => P.readableRec t && decide (t < P.types.size)) = true →
    DataW.TrodAll enc P W 0 (fun _ => true) true ts vs ds ps → ∀ {W' : World}, Below W.heap.size W W' → ∀ sp : Nat → Bool, (∀ p ∈ ps, sp p.block = true) → DataW.TrodAll enc P W' 0 sp true ts vs ds ps
  | [], vs, ds, ps, _, hA, W', _, sp, _ => by obtain ⟨rfl, rfl, rfl⟩ := trodAll_nil hA; exact trodAll_mk0
  | t :: ts, vs, ds, ps, hok, hA, W', hB, sp, hsp => by
    simp only [List.all_cons, Bool.and_eq_true, decide_eq_true_eq] at hok
    have hlt := DataW.TrodAll.lt hA
    obtain ⟨v0, vs0, d0, ds0, p0, q0, rfl, rfl, rfl, h0, r0⟩ := trodAll_cons hA
    refine trodAll_cons_mk (WideElems.Trod_stays hl hok.1.1 hok.1.2 h0 (fun x hx => hB.same (hlt x (by simp [hx]))) (fun x hx => hsp x (by simp [hx]))) (args_stay hl ts vs0 ds0 q0 hok.2 r0 hB sp (fun p hp => hsp p (by simp [hp])))

end Go.Am

