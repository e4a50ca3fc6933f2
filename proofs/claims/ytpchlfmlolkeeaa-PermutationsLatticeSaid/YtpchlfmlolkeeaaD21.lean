/-
  The data layer: code, opened from the front; what comes later waits as data.
-/
import Derived.Test.YtpchlfmlolkeeaaD20
set_option linter.unusedSimpArgs false
set_option linter.unusedVariables false
namespace Go.Am
open Go Go.RowKit

variable {P : Program} {o : Oper} {st : PT} {h : AHeap} {G F : Nat → Prop} {η : Nat → Nat → Prop} {t : DT} {L : Own} {d : DV} {E : Env} {n : Nat}

/-- What a call yields: what must hold, the value, what is one's own then, names that are gone. -/
abbrev CRes := Option Prop × DV × Own × List Nat
abbrev CF := Nat → List DV → Own → Option CRes

def CFk (P : Program) (C : CF) : CO := fun f args t L K => match C f args L with
  | some (side, d, L', ks) => sideP side (K d (killT ks t) L')
  | none => DI P f args t L K

def CFOk (P : Program) (C : CF) : Prop := ∀ f args L side d L' ks, C f args L = some (side, d, L', ks) → (∀ p, side = some p → p) → DCalls P f args L fun d' L2 ks' => d' = d ∧ L2 = L' ∧ ks' = ks

theorem CFOk.ok {C : CF} (H : CFOk P C) : COk P (CFk P C) := by
  intro f args t L K hC
  unfold CFk at hC
  split at hC
  · rename_i side d L' ks hc
    obtain ⟨h1, h2⟩ := sideP_sound hC
    exact (H f args L side d L' ks hc h1).toDI.mono fun d' t' L2 ⟨ks', ⟨e1, e2, e3⟩, e4⟩ => by rw [e4, e1, e2, e3]; exact h2
  · exact hC

/-! Operations that turn memory, first what they yield. -/

def eStore (n : Nat) (a x : DV) (L : Own) : Option CRes :=
  match x.cellA with
  | none => none
  | some l =>
    bif Nat.beq l.length n && l.all DV.cell then
      match a with
      | .bptr j off => match lkO L.m j with
        | some (.box cells) => bif Nat.ble (off + n) cells.length then some (none, .und, setO L j (.box (setAllD cells off l)), []) else none
        | _ => none
      | .aptr j e i off => match lkO L.m j with
        | some (.arr e' xs) => if h : e' = e then
            match asTy e (setAllD (flat e ((h ▸ xs : List e.D).getD i e.zero)) off l) with
            | some y => bif Nat.ble (off + n) e.size then some (some (i < (h ▸ xs : List e.D).length), .und, setO L j (.arr e ((h ▸ xs : List e.D).set i y)), []) else none
            | none => none
          else none
        | _ => none
      | _ => none
    else none

def eApp (e : Ty) (bytes : Nat) (keep : Bool) (a b : DV) (L : Own) : Option CRes :=
  match elB e L.m b with
  | none => none
  | some (side, ys) =>
    match a with
    | .nils => some (some (sideP side (ys.length * bytes ≤ 140737488355328)), .osl L.nx e 0 ys.length none, newO L (.arr e ys), [])
    | .sl e' s => if h : e' = e then
        some (some (sideP side (∃ c, s.cap = some c ∧ (ys.length = 0 ∨ c < s.l.length + ys.length) ∧ (s.l.length + ys.length) * bytes ≤ 140737488355328)), .sl e ⟨(h ▸ s : Sl e.D).l ++ ys, none⟩, L, [])
      else none
    | .osl j e' off len cap => if e' = e then
        match lkO L.m j with
        | some (.arr e'' xs) => if h : e'' = e then
            bif Nat.beq off 0 && Nat.ble L.fx j then
              bif keep then some (some (sideP side (len ≤ (h ▸ xs : List e.D).length ∧ (len + ys.length) * bytes ≤ 140737488355328 ∧ ∃ c, cap = some c ∧ len + ys.length ≤ c)), .osl j e 0 (len + ys.length) cap, renew L j (.arr e ((h ▸ xs : List e.D).take len ++ ys)), [j])
              else some (some (sideP side (len ≤ (h ▸ xs : List e.D).length ∧ (len + ys.length) * bytes ≤ 140737488355328)), .osl j e 0 (len + ys.length) none, renew L j (.arr e ((h ▸ xs : List e.D).take len ++ ys)), [j])
            else none
          else none
        | _ => none
      else none
    | _ => none

def eff1 (x : DOp) (t : DT) (L : Own) : Option CRes :=
  match x with
  | .alloc z => some (none, .bptr L.nx 0, newO L (.box z), [])
  | .allocA e n => some (none, .aptr L.nx e 0 0, newO L (.arr e (List.replicate n e.zero)), [])
  | .box x => match ev t x with
    | some d => match d.cellA with
      | some l => some (none, .bptr L.nx 0, newO L (.box l), [])
      | none => none
    | none => none
  | .store n a x => match ev t a, ev t x with
    | some a, some x => eStore n a x L
    | _, _ => none
  | .mkS e bytes l c => match ev t l, ev t c with
    | some (.int _ l), some (.int _ c) => some (some (0 ≤ l ∧ l ≤ c ∧ c ≤ 140737488355328 ∧ bytes * c.toNat ≤ 140737488355328), .osl L.nx e 0 l.toNat (some c.toNat), newO L (.arr e (List.replicate l.toNat e.zero)), [])
    | _, _ => none
  | .bldS e n xs => match evs t xs with
    | some ds => match elemsOf e ds with
      | some ys => bif Nat.beq ds.length n then some (none, .osl L.nx e 0 n (some n), newO L (.arr e ys), []) else none
      | none => none
    | none => none
  | .toB x => match ev t x with
    | some (.str q) => some (some (q.size < big), .osl L.nx (.int .u8) 0 q.size none, newO L (.arr (.int .u8) (strInts q)), [])
    | _ => none
  | .app e bytes keep a b => match ev t a, ev t b with
    | some a, some b => eApp e bytes keep a b L
    | _, _ => none
  | _ => none

def sideT (sd : Option Prop) : Prop :=
  match sd with
  | none => True
  | some p => p

theorem side_and {sd : Option Prop} {X : Prop} (h : sideP sd X) : sideT sd ∧ X := by
  cases sd with
  | none => exact ⟨trivial, h⟩
  | some p => exact h

theorem eApp_dApp {e : Ty} {bytes : Nat} {keep : Bool} {a b : DV} {side : Option Prop} {L' : Own} {ks : List Nat} {K : KK} (hx : eApp e bytes keep a b L = some (side, d, L', ks)) (hs : ∀ p, side = some p → p) (hK : K d L' ks) :
    dApp e bytes keep a b L K := by
  unfold eApp at hx
  unfold dApp
  cases hel : elB e L.m b with
  | none => rw [hel] at hx; cases hx
  | some r =>
    obtain ⟨sd, ys⟩ := r
    rw [hel] at hx
    simp only at hx ⊢
    cases a with
    | nils =>
      simp only [Option.some.injEq, Prod.mk.injEq] at hx; obtain ⟨rfl, rfl, rfl, rfl⟩ := hx
      obtain ⟨q1, q2⟩ := side_and (hs _ rfl)
      exact ⟨q1, q2, hK⟩
    | sl e' s =>
      simp only at hx ⊢
      by_cases hee : e' = e
      · subst hee
        simp only [dite_true, Option.some.injEq, Prod.mk.injEq] at hx ⊢
        obtain ⟨rfl, rfl, rfl, rfl⟩ := hx
        obtain ⟨q1, c, q2, q3, q4⟩ := side_and (hs _ rfl)
        exact ⟨q1, c, q2, q3, q4, hK⟩
      · rw [dif_neg hee] at hx; cases hx
    | osl j e' off len cap =>
      simp only at hx ⊢
      by_cases hee : e' = e
      · subst hee
        simp only [if_true] at hx ⊢
        cases hj : lkO L.m j with
        | none => rw [hj] at hx; cases hx
        | some l =>
          cases l with
          | lp => rw [hj] at hx; cases hx
          | box cells => rw [hj] at hx; cases hx
          | arr e'' xs =>
            rw [hj] at hx
            simp only at hx ⊢
            by_cases hee : e'' = e'
            · subst hee
              simp only [dite_true] at hx ⊢
              cases hb : (Nat.beq off 0 && Nat.ble L.fx j) with
              | false => simp only [hb, cond_false] at hx; cases hx
              | true =>
                simp only [hb, cond_true] at hx ⊢
                cases keep with
                | true =>
                  simp only [cond_true, Option.some.injEq, Prod.mk.injEq] at hx ⊢
                  obtain ⟨rfl, rfl, rfl, rfl⟩ := hx
                  obtain ⟨q1, q2, q3, c, q4, q5⟩ := side_and (hs _ rfl)
                  exact ⟨q1, q2, q3, c, q4, q5, by rw [← q4]; exact hK⟩
                | false =>
                  simp only [cond_false, Option.some.injEq, Prod.mk.injEq] at hx ⊢
                  obtain ⟨rfl, rfl, rfl, rfl⟩ := hx
                  obtain ⟨q1, q2, q3⟩ := side_and (hs _ rfl)
                  exact ⟨q1, q2, q3, hK⟩
            · rw [dif_neg hee] at hx; cases hx
      · rw [if_neg hee] at hx; cases hx
    | _ => cases hx

theorem eff1_deff {x : DOp} {side : Option Prop} {L' : Own} {ks : List Nat} {K : KK} (hx : eff1 x t L = some (side, d, L', ks)) (hs : ∀ p, side = some p → p) (hK : K d L' ks) : deff x t L K := by
  unfold eff1 at hx
  unfold deff
  split at hx
  · simp only [Option.some.injEq, Prod.mk.injEq] at hx; obtain ⟨_, rfl, rfl, rfl⟩ := hx; exact hK
  · simp only [Option.some.injEq, Prod.mk.injEq] at hx; obtain ⟨_, rfl, rfl, rfl⟩ := hx; exact hK
  · split at hx
    · rename_i h1
      split at hx
      · rename_i h2
        simp only [Option.some.injEq, Prod.mk.injEq] at hx; obtain ⟨_, rfl, rfl, rfl⟩ := hx
        simp only [h1, h2]; exact hK
      · cases hx
    · cases hx
  · split at hx
    · rename_i a x h1 h2
      simp only [h1, h2]
      unfold eStore at hx
      unfold dStore
      split at hx
      · cases hx
      · rename_i l hl
        simp only [hl]
        cases hb : (Nat.beq l.length _ && l.all DV.cell) with
        | false => simp only [hb, cond_false] at hx; cases hx
        | true =>
          simp only [hb, cond_true] at hx ⊢
          split at hx
          · split at hx
            · rename_i cells hj
              simp only [hj]
              cases hc : Nat.ble _ cells.length with
              | false => simp only [hc, cond_false] at hx; cases hx
              | true =>
                simp only [hc, cond_true] at hx ⊢
                simp only [Option.some.injEq, Prod.mk.injEq] at hx; obtain ⟨_, rfl, rfl, rfl⟩ := hx
                exact hK
            · cases hx
          · split at hx
            · rename_i e' xs hj
              split at hx
              · rename_i hee
                subst hee
                simp only [hj, dite_true] at hx ⊢
                split at hx
                · rename_i y hy
                  simp only [hy]
                  cases hc : Nat.ble _ (Ty.size _) with
                  | false => simp only [hc, cond_false] at hx; cases hx
                  | true =>
                    simp only [hc, cond_true] at hx ⊢
                    simp only [Option.some.injEq, Prod.mk.injEq] at hx; obtain ⟨rfl, rfl, rfl, rfl⟩ := hx
                    exact ⟨hs _ rfl, hK⟩
                · cases hx
              · cases hx
            · cases hx
          · cases hx
    · cases hx
  · split at hx
    · rename_i h1 h2
      simp only [Option.some.injEq, Prod.mk.injEq] at hx; obtain ⟨rfl, rfl, rfl, rfl⟩ := hx
      simp only [h1, h2, dMkS]
      exact ⟨hs _ rfl, hK⟩
    · cases hx
  · split at hx
    · rename_i ds h1
      split at hx
      · rename_i ys h2
        simp only [h1, h2]
        cases hb : Nat.beq ds.length _ with
        | false => simp only [hb, cond_false] at hx; cases hx
        | true =>
          simp only [hb, cond_true] at hx ⊢
          simp only [Option.some.injEq, Prod.mk.injEq] at hx; obtain ⟨_, rfl, rfl, rfl⟩ := hx
          exact hK
      · cases hx
    · cases hx
  · split at hx
    · rename_i h1
      simp only [Option.some.injEq, Prod.mk.injEq] at hx; obtain ⟨rfl, rfl, rfl, rfl⟩ := hx
      simp only [h1]
      exact ⟨hs _ rfl, hK⟩
    · cases hx
  · split at hx
    · rename_i a b h1 h2
      simp only [h1, h2]
      exact eApp_dApp hx hs hK
    · cases hx
  · cases hx

end Go.Am

