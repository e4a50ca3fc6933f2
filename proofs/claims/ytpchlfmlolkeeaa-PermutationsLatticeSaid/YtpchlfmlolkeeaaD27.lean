/-
  The data layer: calls met by a contract, and calls entered in place.
-/
import Derived.Test.YtpchlfmlolkeeaaD24
set_option linter.unusedSimpArgs false
set_option linter.unusedVariables false
namespace Go.Am
open Go Go.RowKit

variable {P : Program} {n : NN} {C : CF} {f : Nat} {ds : List DV} {dst : Option Nat} {r : List DIt} {F : List Fr} {Q : QQ} {s : DS}

theorem and_goS {p q : Prop} : (p ∧ (q ∧ goS P n C r F Q s)) = ((p ∧ q) ∧ goS P n C r F Q s) := by rw [and_assoc]
theorem goI_pure {φ : DV → Prop} (H : PCalls P f ds φ) (h : ∀ d, φ d → go P n C .normal (.ops r :: F) Q ⟨putD s.t dst d, s.L⟩) : goI P n C f ds dst r F Q s := by
  refine (H s.L).toDI.mono ?_
  rintro d t' L' ⟨ks, ⟨h1, rfl, rfl⟩, rfl⟩
  exact h d h1

theorem goI_calls {K : KK} (H : DCalls P f ds s.L K) (h : ∀ d L' ks, K d L' ks → go P n C .normal (.ops r :: F) Q ⟨putD (killT ks s.t) dst d, L'⟩) : goI P n C f ds dst r F Q s := by
  refine H.toDI.mono ?_
  rintro d t' L' ⟨ks, h1, rfl⟩
  exact h d L' ks h1

/-- What tells nothing of one's own tells nothing of it in any way. -/
theorem kill_of_all {d : DV} (h : d.kill allN = d) (p : Nat → Bool) : d.kill p = d := by
  have := kill_kill allN p (fun _ _ => rfl) d
  rw [h] at this
  exact this

theorem killL_of_all {l : List DV} (h : DV.killL allN l = l) (p : Nat → Bool) : DV.killL p l = l := by
  rw [DV.killL_map] at h ⊢
  have key : ∀ d ∈ l, d.kill p = d := by
    intro d hd
    obtain ⟨i, hi, rfl⟩ := List.getElem_of_mem hd
    refine kill_of_all ?_ p
    have := congrArg (fun l => l[i]?) h
    simpa [hi] using this
  exact (List.map_congr_left key).trans (List.map_id' l)

/-! Frames that wait. -/

def shT (t : DT) : DT := t.map fun x => (x.1 + FB, x.2)
def unT : DT → DT
  | [] => []
  | (i, d) :: t => bif decide (FB ≤ i) then (i - FB, d) :: unT t else unT t

def shP (t : PT) : PT := t.map fun x => (x.1 + FB, x.2)

theorem lk_append : ∀ (a b : DT) (i : Nat), lk (a ++ b) i = (lk a i).or (lk b i)
  | [], b, i => by simp [lk]
  | (d, v) :: a, b, i => by
    simp only [List.cons_append, lk]
    cases Nat.beq i d
    · simp only [cond_false]; exact lk_append a b i
    · rfl

theorem lk_shT : ∀ (t : DT) (i : Nat) (d : DV), lk (shT t) i = some d → ∃ k, i = k + FB ∧ lk t k = some d
  | [], i, d, h => by cases h
  | (j, x) :: t, i, d, h => by
    simp only [shT, List.map_cons, lk] at h
    cases hb : Nat.beq i (j + FB) with
    | true =>
      rw [hb] at h
      have := Nat.eq_of_beq_eq_true hb
      exact ⟨j, this, by simp only [lk, Nat.beq_refl, cond_true]; exact h⟩
    | false =>
      rw [hb] at h
      obtain ⟨k, h1, h2⟩ := lk_shT t i d h
      refine ⟨k, h1, ?_⟩
      simp only [lk]
      have : Nat.beq k j = false := beq_no (by rintro rfl; rw [h1] at hb; simp at hb)
      rw [this]; exact h2

theorem look_shP : ∀ (t : PT) (k : Nat), look? (shP t) (k + FB) = look? t k
  | [], k => rfl
  | (j, x) :: t, k => by
    simp only [shP, List.map_cons, look?]
    by_cases h : k = j
    · subst h; simp
    · rw [beq_no h, beq_no (by omega)]; exact look_shP t k

theorem look_shP_ge : ∀ (t : PT) (i : Nat) (v : Value), look? (shP t) i = some v → FB ≤ i
  | [], i, v, h => by cases h
  | (j, x) :: t, i, v, h => by
    simp only [shP, List.map_cons, look?] at h
    cases hb : Nat.beq i (j + FB) with
    | true => have := Nat.eq_of_beq_eq_true hb; omega
    | false => rw [hb] at h; exact look_shP_ge t i v h

theorem lk_unT : ∀ (t : DT) (i : Nat) (d : DV), lk (unT t) i = some d → lk t (i + FB) = some d
  | [], i, d, h => by cases h
  | (j, x) :: t, i, d, h => by
    simp only [unT] at h
    cases hj : decide (FB ≤ j) with
    | true =>
      rw [hj] at h
      simp only [cond_true, lk] at h
      have hj := of_decide_eq_true hj
      simp only [lk]
      by_cases hi : i = j - FB
      · rw [hi] at h ⊢
        rw [Nat.beq_refl] at h
        simp only [cond_true] at h
        have hjj : j - FB + FB = j := Nat.sub_add_cancel hj
        rw [hjj]; simp only [Nat.beq_refl, cond_true]; exact h
      · rw [beq_no hi] at h
        have hne : i + FB ≠ j := by omega
        rw [beq_no hne]
        exact lk_unT t i d h
    | false =>
      rw [hj] at h
      have hj := of_decide_eq_false hj
      simp only [lk]
      have hne : i + FB ≠ j := by omega
      rw [beq_no hne]
      exact lk_unT t i d h

def dresL (t : DT) (m : List (Nat × Loc)) : List DRes → Option (List Prop × List DV)
  | [] => some ([], [])
  | r :: rs => match dres1 t m r with
    | some (side, d) => match dresL t m rs with
      | some (ps, l) => some ((match side with | none => ps | some p => p :: ps), d :: l)
      | none => none
    | none => none

theorem dresL_dress {t : DT} {m : List (Nat × Loc)} : ∀ (rs : List DRes) (ps : List Prop) (l : List DV) (k : List DV → Prop), dresL t m rs = some (ps, l) → (∀ p ∈ ps, p) → k l → dress t m rs k
  | [], ps, l, k, h, hp, hk => by cases h; exact hk
  | r :: rs, ps, l, k, h, hp, hk => by
    simp only [dresL] at h
    simp only [dress]
    split at h
    · rename_i side d h1
      split at h
      · rename_i ps' l' h2
        cases h
        rw [h1]
        simp only
        cases side with
        | none => exact dresL_dress rs ps' l' _ h2 hp hk
        | some p => exact ⟨hp p (by simp), dresL_dress rs ps' l' _ h2 (fun q hq => hp q (by simp [hq])) hk⟩
      · cases h
    · cases h

/-- What comes behind a call that was entered in place. -/
def inQ (P : Program) (n : NN) (C : CF) (dst : Option Nat) (r : List DIt) (F : List Fr) (Q : QQ) (rs : List DRes) (e : AEx) (s : DS) : Prop :=
  match e with
  | .normal | .ret => match dresL s.t s.L.m rs with
    | some (ps, l) => sidesP ps (go P n C .normal (.ops r :: F) Q ⟨putD (unT s.t) dst (finDV l), s.L⟩)
    | none => False
  | _ => False

theorem goI_in (Kp : POk P) (hC : CFOk P C) {fn : Func} {c0 : Code} {c : DCode} {rs : List DRes} (hf : P.funcs[f]? = some fn) (hb : fn.body = some c0) (hr : resCode P fn.ntmps c0 c = true) (hres : resRess P fn.results.toList rs = true)
    (hn : Nat.ble ds.length fn.ntmps = true) (hlt : Nat.ble fn.ntmps FB = true) (H : go P ⟨fn.ntmps, true⟩ C .normal [.code c] (inQ P n C dst r F Q rs) ⟨argsD 0 ds ++ shT s.t, s.L⟩) : goI P n C f ds dst r F Q s := by
  have hn := Nat.le_of_ble_eq_true hn
  have hlt := Nat.le_of_ble_eq_true hlt
  refine ⟨⟨fn, hf, by rw [hb]; rfl⟩, fun E η s0 vs B0 B R hp => ?_⟩
  have hlen : vs.length = ds.length := hp.1.symm
  let E' : Env := ⟨E.h, E.η, E.O, E.G, shP (s0.t ++ E.sv), s0.d ++ E.dv⟩
  have hge : ∀ i v, look? (argsPT 0 vs) i = some v → i < FB := fun i v hv => by
    have h2 := (List.getElem?_eq_some_iff.1 (argsPT_look vs 0 i v hv).2).1
    omega
  have R' : RS E' η ⟨argsD 0 ds ++ shT s.t, s.L⟩ ⟨argsPT 0 vs, s0.h, []⟩ := by
    refine ⟨fun i d hd => ?_, ⟨R.hs.own, R.hs.gone, R.hs.le, R.hs.keep, R.hs.mine, R.hs.fix, R.hs.rs, R.hs.bk, R.hs.nm⟩, ⟨fun b hb => R.d.get b hb, R.d.nd⟩, hge, fun i v hv => look_shP_ge _ i v hv⟩
    rw [lk_append] at hd
    cases h1 : lk (argsD 0 ds) i with
    | some d0 =>
      rw [h1] at hd
      cases hd
      obtain ⟨v, g1, g2⟩ := argsD_look ds vs 0 hp i _ h1
      exact ⟨v, by rw [look_append, g1]; rfl, g2⟩
    | none =>
      rw [h1] at hd
      obtain ⟨k, rfl, hk⟩ := lk_shT s.t i d hd
      obtain ⟨v, g1, g2⟩ := R.slots k d hk
      refine ⟨v, ?_, g2⟩
      rw [look_append]
      have : look? (argsPT 0 vs) (k + FB) = none := by
        cases hx : look? (argsPT 0 vs) (k + FB) with
        | none => rfl
        | some x => have := hge _ _ hx; omega
      rw [this]
      show look? (shP (s0.t ++ E.sv)) (k + FB) = some v
      rw [look_shP]; exact g1
  refine ACalls.of_bodyL hf hb (by omega) fun N => ?_
  refine (go_sound Kp hC c c0 [] _ _ hr H E' η _ N B0 R').mono fun e s' ⟨η', ds', q, r'⟩ => ?_
  replace q : inQ P n C dst r F Q rs e ds' := by
    have q' : go P ⟨fn.ntmps, true⟩ C e [] (inQ P n C dst r F Q rs) ds' := q
    rw [go_nil] at q'; exact q'
  have fin : (match dresL ds'.t ds'.L.m rs with
    | some (ps, l) => sidesP ps (go P n C .normal (.ops r :: F) Q ⟨putD (unT ds'.t) dst (finDV l), ds'.L⟩)
    | none => False) → Left s'.h s'.d ∧ ∃ v, presults P fn ⟨s'.t, killA s'.h s'.d, []⟩ = some v ∧ ∃ d t' L' η', go P n C .normal (.ops r :: F) Q ⟨putD t' dst d, L'⟩ ∧ RdV (killA s'.h s'.d) (Fz E.gd η' L'.m) η' d v ∧ RS E η' ⟨t', L'⟩ ⟨s0.t, killA s'.h s'.d, s0.d⟩ := by
    intro q
    split at q
    · rename_i ps l hl
      obtain ⟨hps, hgo⟩ := sidesP_sound q
      obtain ⟨hleft, Ru⟩ := r'.unwind
      obtain ⟨l', ws, hk, hm, hpv⟩ := dress_sound Ru rs _ (fun l' => l' = l) hres (dresL_dress rs ps l _ hl hps rfl)
      subst hk
      have hv : ∃ v, presults P fn ⟨s'.t, killA s'.h s'.d, []⟩ = some v ∧ RdV (killA s'.h s'.d) (Fz E'.gd η' ds'.L.m) η' (finDV l') v := by
        unfold presults
        rw [hm]
        match l', ws, hpv with
        | [], [], hpv => exact ⟨_, rfl, .tup rfl fun i d x hd hx => by simp at hd⟩
        | [d], [v], hpv => exact ⟨v, rfl, hpv.2 0 d v rfl rfl⟩
        | d :: d2 :: l, v :: v2 :: vs, hpv => exact ⟨_, rfl, .tup (by have := hpv.1; simpa using this) fun i d x hd hx => hpv.2 i d x hd (by simpa using hx)⟩
        | [], _ :: _, hpv => have := hpv.1; simp at this
        | _ :: _, [], hpv => have := hpv.1; simp at this
        | [_], _ :: _ :: _, hpv => have := hpv.1; simp at this
        | _ :: _ :: _, [_], hpv => have := hpv.1; simp at this
      obtain ⟨v, h1, h2⟩ := hv
      refine ⟨hleft, v, h1, finDV l', unT ds'.t, ds'.L, η', hgo, h2, ⟨fun i d hd => ?_, ⟨Ru.hs.own, Ru.hs.gone, Ru.hs.le, Ru.hs.keep, Ru.hs.mine, Ru.hs.fix, Ru.hs.rs, Ru.hs.bk, Ru.hs.nm⟩, ⟨fun b hb => Ru.d.get b hb, Ru.d.nd⟩, R.lt, R.sv⟩⟩
      obtain ⟨v, g1, g2⟩ := Ru.slots _ d (lk_unT _ i d hd)
      refine ⟨v, ?_, g2⟩
      have := Ru.wait (by omega) g1
      rw [show E'.sv = shP (s0.t ++ E.sv) from rfl, look_shP] at this
      exact this
    · exact q.elim
  cases e with
  | normal => exact fin q
  | ret => exact fin q
  | exit id => exact q.elim
  | goto l => exact q.elim

end Go.Am

