/-
  The abstract machine: each of its steps is made by the model's machine; a run that ends is a call that returns.
-/
import Derived.Test.YtkiognclopmciaaDoorAmDraw3
import Derived.RangeFuncIn
namespace Go.Am
open Go Go.RowKit

variable {P : Program} {ρ : Ren} {w0 w : World} {h : AHeap}

/-! Objects that are no rows. -/

theorem HR.setObj (H : HR P ρ w0 h w) {b : Nat} {p : Pl} (hp : ρ[b]? = some p) (hl : live (h.get b) = true) (ao : AObj) (o : Obj)
    (ho : OR ρ w0.heap.size p ao { w with heap := w.heap.setIfInBounds p.b o }) : HR P ρ w0 (h.set b ao) { w with heap := w.heap.setIfInBounds p.b o } := by
  have hb := (H.obj b p hp).2.base_le hl
  refine H.change hp hl ao (H.below.trans ⟨rfl, rfl, rfl, by simp, fun k hk => ?_⟩) (by simp) (fun k hk _ => ?_) ho
  · show (w.heap.setIfInBounds p.b o)[k]? = _
    rw [Array.getElem?_setIfInBounds_ne (by omega)]
  · show (w.heap.setIfInBounds p.b o)[k]? = _
    rw [Array.getElem?_setIfInBounds_ne (by omega)]

theorem run_getLoop {l : Nat} {L : Loop} (hw : w.heap[l]? = some (.loop L)) : (Instr.getLoop l).run P w = .ok L w := by
  simp [Instr.getLoop, getObj, Sem.run, hw]

theorem run_setObj {l : Nat} {o o' : Obj} (hw : w.heap[l]? = some o) (hc : ∀ a b c, o ≠ .cells a b c) : (setObj l o').run P w = .ok () { w with heap := w.heap.setIfInBounds l o' } := by
  unfold setObj
  cases o <;> simp [Sem.run, hw] <;> exact absurd rfl (hc _ _ _)

theorem heap_set_same {l : Nat} {o o' : Obj} (hw : w.heap[l]? = some o) : (w.heap.setIfInBounds l o')[l]? = some o' := by
  have := (Array.getElem?_eq_some_iff.1 hw).1
  simp [this]

theorem HR.loop (H : HR P ρ w0 h w) {b : Nat} {p : Pl} {l : ALoop} (hp : ρ[b]? = some p) (hg : h.get b = .loop l) : w0.heap.size ≤ p.b ∧ ∃ L, w.heap[p.b]? = some (.loop L) ∧ LoopR ρ l L := by
  have := (H.obj b p hp).2
  rw [hg] at this
  exact this

theorem HR.setLoop (H : HR P ρ w0 h w) {b : Nat} {p : Pl} {l l' : ALoop} {L' : Loop} (hp : ρ[b]? = some p) (hg : h.get b = .loop l) (hl : LoopR ρ l' L') :
    HR P ρ w0 (h.set b (.loop l')) { w with heap := w.heap.setIfInBounds p.b (.loop L') } := by
  obtain ⟨h1, L, h2, h3⟩ := H.loop hp hg
  exact H.setObj hp (by rw [hg]; rfl) _ _ ⟨h1, L', heap_set_same h2, hl⟩

/-! Frames. -/

theorem FR.atR {a : AFrame} {fr : Frame} (F : FR ρ a fr) (hr : a.ret = false) : fr = fr.atR ⟨fr.tmps, fr.defers⟩ fr.todo := by
  have := F.mode
  rw [hr] at this
  cases fr
  simp at this
  subst this
  rfl

theorem FR.of_atR {b : Frame} {a : Act} {todo : List Item} {fn : FuncId} {tmps : Tmps} {atodo : List AItem} {ro : Option Nat} {ds : List Nat} (h1 : b.fn = fn) (h2 : TR ρ tmps a.tmps) (h3 : TodoR ρ atodo todo)
    (h4 : RO ρ ro b.roundOf) (h5 : DR ρ ds a.defers) (h6 : b.kind = .normal) : FR ρ ⟨fn, tmps, atodo, ro, ds, false⟩ (b.atR a todo) := ⟨h1, h2, h3, h4, h5, rfl, h6⟩

theorem finish_sim {c c' : AFrame} {cf : Frame} {v v' : Value} (F : FR ρ c cf) (hf : c.finish v = some c') (hv : VR ρ v v') : FR ρ c' (cf.finish v') := by
  obtain ⟨fn, tmps, todo, ro, ds, ret⟩ := c
  obtain ⟨h1, h2, h3, h4, h5, h6, h7⟩ := F
  unfold AFrame.finish at hf
  have h3 : TodoR ρ todo cf.todo := h3
  generalize hcf : cf.todo = ct at h3
  cases h3 with
  | nil => simp at hf
  | cons hx hs =>
    cases hx with
    | ops all k hk =>
      cases hrest : all.toList.drop k with
      | nil => rw [hrest] at hf; simp at hf
      | cons o rest =>
        rw [hrest] at hf
        simp only at hf
        split at hf
        · rename_i hd
          cases hf
          obtain ⟨hlt, ho, hr⟩ := drop_cons hrest
          rw [range'_cons hlt] at hcf
          have hput := TR.put (ρ := ρ) (a := ⟨cf.tmps, cf.defers⟩) h2 hd hv
          subst hr
          unfold Frame.finish
          rw [hcf]
          simp only [ho, Option.bind_some]
          refine ⟨h1, ?_, .cons (.ops all (k + 1) hlt) hs, h4, h5, h6, h7⟩
          cases hdst : o.dst with
          | none => simp only; exact h2
          | some d => simp only; rw [hdst] at hput; exact hput
        · cases hf
    | inRangeFunc hp =>
      rename_i l p
      cases hf
      unfold Frame.finish
      rw [hcf]
      exact ⟨h1, h2, .cons (.endRangeFunc hp) hs, h4, h5, h6, h7⟩
    | _ => simp at hf

theorem aexitTo_sim (id : Nat) {k : List AItem} {k' : List Item} (H : TodoR ρ k k') : (∀ r, aexitTo id k = some r → ∃ r', exitTo id k' = some r' ∧ TodoR ρ r r') ∧ (aexitTo id k = none → exitTo id k' = none) := by
  induction H with
  | nil => exact ⟨fun r h => by simp [aexitTo] at h, fun _ => rfl⟩
  | cons hx hs ih =>
    cases hx with
    | inBlock id' =>
      simp only [aexitTo, exitTo]
      by_cases he : (id' == id) = true
      · simp only [he, if_true]
        exact ⟨fun r h => by cases h; exact ⟨_, rfl, hs⟩, fun h => by cases h⟩
      · simp only [he]; exact ih
    | _ => simp only [aexitTo, exitTo]; exact ih

theorem agotoIn_sim (l : Nat) {k : List AItem} {k' : List Item} (H : TodoR ρ k k') : (∀ r, agotoIn l k = some r → ∃ r', gotoIn l k' = some r' ∧ TodoR ρ r r') ∧ (agotoIn l k = none → gotoIn l k' = none) := by
  induction H with
  | nil => exact ⟨fun r h => by simp [agotoIn] at h, fun _ => rfl⟩
  | cons hx hs ih =>
    cases hx with
    | inScope body =>
      simp only [agotoIn, gotoIn]
      cases hf : findLabel body l with
      | none => simp only; exact ih
      | some rest => exact ⟨fun r h => by cases h; exact ⟨_, rfl, .cons (.code _) (.cons (.inScope _) hs)⟩, fun h => by cases h⟩
    | _ => simp only [agotoIn, gotoIn]; exact ih

theorem LR.snoc_get {xs ys : List Value} (H : LR ρ xs ys) (i : Nat) : VR ρ (xs.getD i undef) (ys.getD i undef) := by
  rcases Nat.lt_or_ge i xs.length with h | h
  · have h' : i < ys.length := by rw [← H.1]; exact h
    have := H.2 i xs[i] ys[i] (List.getElem?_eq_getElem h) (List.getElem?_eq_getElem h')
    simpa [List.getD_eq_getElem?_getD, List.getElem?_eq_getElem h, List.getElem?_eq_getElem h'] using this
  · have h' : ys.length ≤ i := by rw [← H.1]; exact h
    simpa [List.getD_eq_getElem?_getD, List.getElem?_eq_none h, List.getElem?_eq_none h'] using VR.undef ρ

theorem fill_get : ∀ (vs : List Value) (t : Tr Value) (i j : Nat), (Tmps.fill t i vs).get undef j = if i ≤ j ∧ j < i + vs.length then vs.getD (j - i) undef else t.get undef j
  | [], t, i, j => by simp [Tmps.fill]; omega
  | v :: vs, t, i, j => by
    simp only [Tmps.fill]
    rw [fill_get vs _ (i + 1) j, Tr.get_set _ _ _ _ _ _ (fuel_ok i)]
    simp only [List.length_cons]
    by_cases h1 : i + 1 ≤ j ∧ j < i + 1 + vs.length
    · rw [if_pos h1, if_pos (by omega)]
      obtain ⟨d, hd⟩ : ∃ d, j - i = d + 1 := ⟨j - i - 1, by omega⟩
      rw [hd, show j - (i + 1) = d from by omega]
      rfl
    · rw [if_neg h1]
      by_cases h2 : j = i
      · subst h2
        rw [if_pos rfl, if_pos (by omega)]
        simp
      · rw [if_neg h2, if_neg (by omega)]

theorem enter_TR {args : List Value} {args' : Array Value} (H : LR ρ args args'.toList) {n : Nat} (h1 : args.length ≤ n):
    TR ρ ⟨n, Tmps.fill .nil 0 args⟩ (args' ++ Array.replicate (n - args'.size) undef) := by
  have hl : args.length = args'.size := by simpa using H.1
  refine ⟨by simp; omega, fun i => ?_⟩
  show VR ρ ((Tmps.fill .nil 0 args).get undef i) _
  rw [fill_get args .nil 0 i]
  simp only [Nat.zero_le, true_and, Nat.zero_add, Nat.sub_zero]
  by_cases hi : i < args.length
  · rw [if_pos hi]
    have := H.snoc_get i
    have e : (args' ++ Array.replicate (n - args'.size) undef).getD i undef = args'.toList.getD i undef := by
      have : i < args'.size := by omega
      simp only [Array.getD_eq_getD_getElem?, List.getD_eq_getElem?_getD, Array.getElem?_toList]
      rw [Array.getElem?_append_left this]
    rw [e]; exact this
  · rw [if_neg hi]
    have e : (args' ++ Array.replicate (n - args'.size) undef).getD i undef = undef := by
      simp only [Array.getD_eq_getD_getElem?]
      rw [Array.getElem?_append_right (by omega)]
      rcases Nat.lt_or_ge (i - args'.size) (n - args'.size) with h | h
      · simp [h]
      · rw [Array.getElem?_eq_none (by simp; omega)]; rfl
    rw [e]
    exact VR.undef ρ

theorem setParams_sim : ∀ (ps : List Tmp) (args args' : List Value) (t t' : Tmps) (c : Array Value), setParams t ps args = some t' → LR ρ args args' → TR ρ t c →
    TR ρ t' ((ps.zip args').foldl (fun tmps (x : Tmp × Value) => tmps.setIfInBounds x.1 x.2) c) ∧ ps.length = args.length
  | [], [], args', t, t', c, h, hl, HT => by simp [setParams] at h; subst h; rw [hl.nil_left]; exact ⟨HT, rfl⟩
  | [], a :: as, args', t, t', c, h, hl, HT => by simp [setParams] at h
  | p :: ps, [], args', t, t', c, h, hl, HT => by simp [setParams] at h
  | p :: ps, a :: as, args', t, t', c, h, hl, HT => by
    obtain ⟨y, ys, rfl, hv, hs⟩ := hl.uncons
    simp only [setParams] at h
    split at h
    · rename_i hlt
      have := TR.put (ρ := ρ) (a := ⟨c, []⟩) HT (d := some p) hlt hv
      obtain ⟨h1, h2⟩ := setParams_sim ps as ys _ t' _ h hs this
      exact ⟨h1, by simp [h2]⟩
    · cases h

end Go.Am
