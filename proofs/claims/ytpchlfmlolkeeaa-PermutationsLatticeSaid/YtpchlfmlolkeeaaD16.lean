/-
  The data layer: contracts, regions.
-/
import Derived.Test.YtpchlfmlolkeeaaD15
set_option linter.unusedSimpArgs false
set_option linter.unusedVariables false
namespace Go.Am
open Go Go.RowKit

variable {P : Program} {o : Oper} {st : PT} {h : AHeap} {G F : Nat → Prop} {η : Nat → Nat → Prop} {t : DT} {L : Own} {side : Option Prop} {d : DV} {E : Env} {n : Nat}

/-! Steps of a proof. -/

def frzSides (j : Nat) (n : Nat) : DT → Prop → Prop
  | [], X => X
  | (_, .osl j' _ off len _) :: t, X => bif Nat.beq j j' then off + len ≤ n ∧ frzSides j n t X else frzSides j n t X
  | _ :: t, X => frzSides j n t X

def frzOne (j : Nat) (e : Ty) (xs : List e.D) : DV → DV
  | .osl j' e' off len cap => bif Nat.beq j j' && decide (e' = e) then .sl e ⟨(xs.drop off).take len, cap⟩ else .osl j' e' off len cap
  | d => d

def unl : DV → DV
  | .lit b => .bool b
  | d => d

theorem unl_sound {d : DV} {v : Value} (hv : RdV h F η d v) : RdV h F η (unl d) v := by
  cases d with
  | lit b => cases hv; exact .bool b
  | _ => exact hv

def dghost (g : Ghost) (t : DT) (L : Own) (K : DT → Own → Prop) : Prop :=
  match g with
  | .frz j => match lkO L.m j with
    | some (.arr e xs) => bif Nat.ble L.fx j then frzSides j xs.length t (K (t.map fun x => (x.1, frzOne j e xs x.2)) ⟨L.nx, L.fx, rmO j L.m⟩) else False
    | _ => False
  | .own i e => match lk t i with
    | some .nils => K ((i, .osl L.nx e 0 0 none) :: t) (newO L (.arr e []))
    | _ => False
  | .ty i e => match lk t i with
    | some .nils => K ((i, .sl e ⟨[], some 0⟩) :: t) L
    | some _ => K t L
    | none => False
  | .drop j => K t ⟨L.nx, L.fx, rmO j L.m⟩
  | .cap i => match lk t i with
    | some (.osl j e off len _) => K ((i, .osl j e off len none) :: t) L
    | some (.sl e s) => K ((i, .sl e ⟨s.l, none⟩) :: t) L
    | _ => False
  | .keep is => K (t.filter fun x => is.contains x.1) L
  | .mrg _ i m => match lk t i with
    | some d => K ((i, unl d) :: dropM m t) L
    | none => False
  | .kp m => K (keepM m t) L
  | .frzB i ty => match lk t i with
    | some (.bptr j off) => match lkO L.m j with
      | some (.box cells) => match asTy ty cells with
        | some x => bif Nat.ble L.fx j && Nat.beq off 0 then K ((i, .fptr ty x) :: t) ⟨L.nx, L.fx, rmO j L.m⟩ else False
        | none => False
      | _ => False
    | _ => False
  | .exs ps => bif exsB t ps then K t L else False

theorem lk_filter {f : Nat → Bool} {i : Nat} {d : DV} : ∀ t : DT, lk (t.filter fun x => f x.1) i = some d → lk t i = some d := by
  intro t
  induction t with
  | nil => exact fun h => h
  | cons x t ih =>
    intro hl
    obtain ⟨k, w⟩ := x
    rw [List.filter_cons] at hl
    split at hl
    · simp only [lk] at hl ⊢
      cases hb : Nat.beq i k with
      | true => simp only [hb, cond_true] at hl ⊢; exact hl
      | false => simp only [hb, cond_false] at hl ⊢; exact ih hl
    · rename_i hno
      simp only [lk]
      cases hb : Nat.beq i k with
      | true =>
        have := Nat.eq_of_beq_eq_true hb
        subst this
        have h2 : lk (t.filter fun x => f x.1) i = none := by
          clear hl ih
          induction t with
          | nil => rfl
          | cons y t ih =>
            obtain ⟨k2, w2⟩ := y
            rw [List.filter_cons]
            split
            · rename_i hy
              simp only [lk]
              cases hb2 : Nat.beq i k2 with
              | true =>
                have := Nat.eq_of_beq_eq_true hb2
                subst this
                exact absurd hy hno
              | false => simp only [cond_false]; exact ih
            · exact ih
        rw [h2] at hl; cases hl
      | false => simp only [cond_false]; exact ih hl

theorem lk_dropM {m i : Nat} {d : DV} : ∀ t : DT, lk (dropM m t) i = some d → lk t i = some d := by
  have key : ∀ t : DT, dropM m t = t.filter fun x => !(bif decide (FB ≤ x.1) then false else (m / 2 ^ x.1 % 2 == 1)) := by
    intro t
    induction t with
    | nil => rfl
    | cons x t ih =>
      obtain ⟨k, w⟩ := x
      simp only [dropM, List.filter_cons, ih]
      cases (bif decide (FB ≤ k) then false else (m / 2 ^ k % 2 == 1)) <;> rfl
  intro t h
  rw [key] at h
  exact lk_filter (f := fun x => !(bif decide (FB ≤ x) then false else (m / 2 ^ x % 2 == 1))) t h

theorem lk_keepM {m i : Nat} {d : DV} : ∀ t : DT, lk (keepM m t) i = some d → lk t i = some d := by
  have key : ∀ t : DT, keepM m t = t.filter fun x => bif decide (FB ≤ x.1) then true else (m / 2 ^ x.1 % 2 == 1) := by
    intro t
    induction t with
    | nil => rfl
    | cons x t ih =>
      obtain ⟨k, w⟩ := x
      simp only [keepM, List.filter_cons, ih]
      cases (bif decide (FB ≤ k) then true else (m / 2 ^ k % 2 == 1)) <;> rfl
  intro t h
  rw [key] at h
  exact lk_filter (f := fun x => bif decide (FB ≤ x) then true else (m / 2 ^ x % 2 == 1)) t h

theorem frzSides_sound {j n : Nat} {X : Prop} : ∀ (t : DT), frzSides j n t X → X ∧ ∀ i j' e off len cap, j' = j → lk t i = some (.osl j' e off len cap) → off + len ≤ n
  | [], hx => ⟨hx, fun i j' e off len cap _ h => by cases h⟩
  | (i0, d) :: t, hx => by
    have key : frzSides j n t X ∧ (∀ j' e off len cap, d = .osl j' e off len cap → j' = j → off + len ≤ n) := by
      unfold frzSides at hx
      split at hx
      · rename_i h; cases h
      · rename_i i1 j' e off len cap t' heq
        cases heq
        cases hb : Nat.beq j j' with
        | true =>
          simp only [hb, cond_true] at hx
          exact ⟨hx.2, fun j2 e2 off2 len2 cap2 h _ => by cases h; exact hx.1⟩
        | false =>
          simp only [hb, cond_false] at hx
          refine ⟨hx, fun j2 e2 off2 len2 cap2 h hj => ?_⟩
          cases h
          subst hj
          simp at hb
      · rename_i x t' hno heq
        cases heq
        exact ⟨hx, fun j2 e2 off2 len2 cap2 h _ => (hno _ _ _ _ _ _ (by rw [h])).elim⟩
    obtain ⟨k1, k2⟩ := key
    obtain ⟨g1, g2⟩ := frzSides_sound t k1
    refine ⟨g1, fun i j' e off len cap hj hl => ?_⟩
    simp only [lk] at hl
    cases hb : Nat.beq i i0 with
    | true =>
      simp only [hb, cond_true, Option.some.injEq] at hl
      exact k2 _ _ _ _ _ hl hj
    | false =>
      simp only [hb, cond_false] at hl
      exact g2 i _ _ _ _ _ hj hl

theorem Slots.over {st : PT} (S : Slots st h F η t) {i : Nat} {v : Value} (hl : look? st i = some v) (hv : RdV h F η d v) : Slots st h F η ((i, d) :: t) := by
  intro k d' hd
  simp only [lk] at hd
  cases hb : Nat.beq k i with
  | true =>
    have := Nat.eq_of_beq_eq_true hb
    subst this
    simp only [hb, cond_true, Option.some.injEq] at hd
    subst hd
    exact ⟨v, hl, hv⟩
  | false =>
    simp only [hb, cond_false] at hd
    exact S k d' hd

/-- A slice of one's own, frozen. -/
theorem frz_sound (H : HS E η L h) {j : Nat} {e : Ty} {xs : List e.D} (hj : lkO L.m j = some (.arr e xs)) (hf : L.fx ≤ j) {off len : Nat} {cap : Option Nat} {v : Value} (hle : off + len ≤ xs.length)
    (hv : RdV h (Fz E.gd η L.m) η (.osl j e off len cap) v) : RdV h (Fz E.gd η (rmO j L.m)) η (.sl e ⟨(xs.drop off).take len, cap⟩) v := by
  have hlen : ((xs.drop off).take len).length = len := by simp; omega
  cases hv with
  | onil hc ho => exact .sl (.inl ⟨_, rfl, by simp, hc⟩)
  | @osl _ b _ _ _ _ c n o' h0 h1 h2 h3 h4 h5 h8 h6 =>
    obtain ⟨cs, junk, z, hg, hcs⟩ := own_arr H.own hj h0
    have hL : ∀ c x, RdC h (Fz E.gd η L.m) e c x → c.length = e.size := fun c x => RdC.length e c x
    have M := HS.mvDrop (E := E) (η := η) (L := L) (h := h) j
    have hF : Fz E.gd η (rmO j L.m) b := by
      refine ⟨?_, fun i x hi hη => ?_⟩
      · rcases H.mine j _ b hj h0 with q | ⟨_, q | q⟩
        · exact .inl q
        · omega
        · exact .inr q
      · have := H.own.inj i j b hη h0
        subst this
        rw [lkO_rmO_eq] at hi
        cases hi
    have hcl := Cells.length hL _ _ hcs
    obtain ⟨g1, g2⟩ := Cells.split hL xs cs off hcs (by omega)
    obtain ⟨g3, _⟩ := Cells.split hL _ _ len g2 (by simp; omega)
    refine .sl (.inr ⟨b, o', c, _, by rw [hlen], (H.own.lt j b h0).2, hF, by rw [hlen]; exact h2, by rw [hlen]; exact h3, fun k hk => h4 k hk, fun hb => ⟨(h6 hb).1, (h6 hb).2.1⟩, ?_, Cells.mono (RdC.mono M.st e) _ _ g3⟩)
    rw [hlen]
    rw [blen_cells hg] at h1
    simp only [Option.some.injEq, List.length_append] at h1
    unfold areadN
    rw [hg]
    simp only [AObj.row, Option.bind_some, takeAt]
    by_cases hl0 : len = 0
    · subst hl0
      have hn : o' ≤ n := by
        by_cases hcb : c < big
        · have := h8 hcb; omega
        · have := (h6 hcb).2.2; omega
      rw [if_pos (by simp; omega)]
      simp
    · have ho' : o' = off * e.size := h5 (by omega)
      subst ho'
      have hle2 : off * e.size + len * e.size ≤ cs.length := by rw [hcl, ← Nat.add_mul]; exact Nat.mul_le_mul_right _ hle
      rw [if_pos (by simp; omega), List.drop_append_of_le_length (by omega), List.take_append_of_le_length (by simp; omega)]

theorem dghost_sound {g : Ghost} {K : DT → Own → Prop} {s : AS} (hd : dghost g t L K) (R : RS E η ⟨t, L⟩ s) : ∃ t' L', K t' L' ∧ RS E η ⟨t', L'⟩ s := by
  unfold dghost at hd
  split at hd
  · rename_i j
    split at hd
    · rename_i e xs hj
      cases hb : Nat.ble L.fx j with
      | false => simp only [hb, cond_false] at hd
      | true =>
        simp only [hb, cond_true] at hd
        obtain ⟨hK, hside⟩ := frzSides_sound t hd
        refine ⟨_, _, hK, ?_, R.hs.drop j, R.d.mv (HS.mvDrop (E := E) (η := η) (L := L) (h := s.h) j), R.lt, R.sv⟩
        intro i d hl
        rw [lk_map, Option.map_eq_some_iff] at hl
        obtain ⟨d0, h1, rfl⟩ := hl
        obtain ⟨v, h2, h3⟩ := R.slots i d0 h1
        refine ⟨v, h2, ?_⟩
        have M := HS.mvDrop (E := E) (η := η) (L := L) (h := s.h) j
        unfold frzOne
        split
        · rename_i j' e' off len cap
          cases hc : (Nat.beq j j' && decide (e' = e)) with
          | false => simp only [cond_false]; exact h3.mono M.st M.kp
          | true =>
            simp only [cond_true]
            simp only [Bool.and_eq_true, decide_eq_true_eq] at hc
            obtain ⟨hc1, rfl⟩ := hc
            have hc1 := Nat.eq_of_beq_eq_true hc1
            subst hc1
            exact frz_sound R.hs hj (Nat.le_of_ble_eq_true hb) (hside i _ _ _ _ _ rfl h1) h3
        · exact h3.mono M.st M.kp
    · exact hd.elim
  · rename_i i e
    split at hd
    · rename_i hl
      obtain ⟨v, h1, h2⟩ := R.slots i _ hl
      cases h2
      obtain ⟨H', M⟩ := R.hs.addNil e
      refine ⟨_, _, hd, Slots.over (fun k d hk => ?_) h1 (.onil0 (.inl rfl)), H', R.d.mv M, R.lt, R.sv⟩
      obtain ⟨v, g1, g2⟩ := R.slots k d hk
      exact ⟨v, g1, g2.mono M.st M.kp⟩
    · exact hd.elim
  · rename_i i e
    split at hd
    · rename_i hl
      obtain ⟨v, h1, h2⟩ := R.slots i _ hl
      cases h2
      exact ⟨_, _, hd, Slots.over R.slots h1 (.sl (.inl ⟨0, rfl, rfl, .inl ⟨.inl rfl, .inr rfl⟩⟩)), R.hs, R.d, R.lt, R.sv⟩
    · exact ⟨_, _, hd, R⟩
    · exact hd.elim
  · rename_i j
    refine ⟨_, _, hd, fun i d hl => ?_, R.hs.drop j, R.d.mv (HS.mvDrop (E := E) (η := η) (L := L) (h := s.h) j), R.lt, R.sv⟩
    obtain ⟨v, h2, h3⟩ := R.slots i d hl
    have M := HS.mvDrop (E := E) (η := η) (L := L) (h := s.h) j
    exact ⟨v, h2, h3.mono M.st M.kp⟩
  · rename_i i
    split at hd
    · rename_i j e off len cap hl
      obtain ⟨v, h1, h2⟩ := R.slots i _ hl
      refine ⟨_, _, hd, Slots.over R.slots h1 ?_, R.hs, R.d, R.lt, R.sv⟩
      cases h2 with
      | onil hc ho => exact .onil (hc.elim (fun q => .inl ⟨q.1, .inl rfl⟩) (fun q => .inr ⟨q.1, rfl⟩)) ho
      | osl c n o' h0 hq h2 h3 h4 h5 h8 h6 => exact .osl c n o' h0 hq h2 h3 (fun k hk => by cases hk) h5 h8 h6
    · rename_i e sl hl
      obtain ⟨v, h1, h2⟩ := R.slots i _ hl
      refine ⟨_, _, hd, Slots.over R.slots h1 ?_, R.hs, R.d, R.lt, R.sv⟩
      cases h2 with | sl hsl =>
      rcases hsl with ⟨c, q1, q2, q3⟩ | ⟨b, o', c, cs, q1, g2, g3, g4, g5, g6, gz, g7, g8⟩
      · refine .sl (.inl ⟨c, q1, q2, ?_⟩)
        rcases q3 with ⟨q, _⟩ | ⟨q, _⟩
        · exact .inl ⟨q, .inl rfl⟩
        · exact .inr ⟨q, rfl⟩
      · exact .sl (.inr ⟨b, o', c, cs, q1, g2, g3, g4, g5, fun k hk => (by cases hk), gz, g7, g8⟩)
    · exact hd.elim
  · rename_i is
    exact ⟨_, _, hd, fun i d hl => R.slots i d (lk_filter _ hl), R.hs, R.d, R.lt, R.sv⟩
  · rename_i g i m
    split at hd
    · rename_i d0 hl
      obtain ⟨v, h1, h2⟩ := R.slots i _ hl
      exact ⟨_, _, hd, Slots.over (fun k d hk => R.slots k d (lk_dropM _ hk)) h1 (unl_sound h2), R.hs, R.d, R.lt, R.sv⟩
    · exact hd.elim
  · rename_i m
    exact ⟨_, _, hd, fun i d hl => R.slots i d (lk_keepM _ hl), R.hs, R.d, R.lt, R.sv⟩
  · rename_i i ty
    split at hd
    rotate_left
    · exact hd.elim
    rename_i j off hl
    split at hd
    rotate_left
    · exact hd.elim
    rename_i cells hj
    split at hd
    rotate_left
    · exact hd.elim
    rename_i x hx
    cases hb : (Nat.ble L.fx j && Nat.beq off 0) with
    | false => simp only [hb, cond_false] at hd
    | true =>
      simp only [hb, cond_true] at hd
      simp only [Bool.and_eq_true] at hb
      obtain ⟨hb1, hb2⟩ := hb
      have := Nat.eq_of_beq_eq_true hb2
      subst this
      have M := HS.mvDrop (E := E) (η := η) (L := L) (h := s.h) j
      obtain ⟨v, h1, h2⟩ := R.slots i _ hl
      refine ⟨_, _, hd, Slots.over (fun k d hk => ?_) h1 ?_, R.hs.drop j, R.d.mv M, R.lt, R.sv⟩
      · obtain ⟨v, g1, g2⟩ := R.slots k d hk
        exact ⟨v, g1, g2.mono M.st M.kp⟩
      · cases h2 with
        | @bptr _ b _ h0 =>
        obtain ⟨c, e, hg, hp⟩ := own_box R.hs.own hj h0
        have hF : Fz E.gd η (rmO j L.m) b := by
          refine ⟨?_, fun i x hi hη => ?_⟩
          · rcases R.hs.mine j _ b hj h0 with q | ⟨_, q | q⟩
            · exact .inl q
            · have hq : j < L.fx := q
              have := Nat.le_of_ble_eq_true hb1; omega
            · exact .inr q
          · have := R.hs.own.inj i j b hη h0
            subst this
            rw [lkO_rmO_eq] at hi
            cases hi
        have hr := asTy_sound hx hp
        have hlen := RdC.length ty c x hr
        refine .fptr (R.hs.own.lt j b h0).2 hF ?_ (RdC.mono M.st ty _ _ hr)
        unfold areadN
        rw [hg, ← hlen]
        simp [AObj.row, takeAt]
  · rename_i ps
    cases hb : exsB t ps with
    | false => simp only [hb, cond_false] at hd
    | true => simp only [hb, cond_true] at hd; exact ⟨_, _, hd, R⟩

/-! Contracts. -/

def DCalls (P : Program) (f : Nat) (args : List DV) (L : Own) (K : KK) : Prop :=
  (∃ fn, P.funcs[f]? = some fn ∧ fn.body.isSome = true) ∧
  ∀ (h : AHeap) (η : Nat → Nat → Prop) (G : Nat → Prop) (vs : List Value), Base P h → OwnR h G η L → PV h (Fz G η L.m) η args vs →
    ACalls P f vs h fun v h' => ∃ d L' ks η', K d L' ks ∧ L'.fx = L.fx ∧ HS ⟨h, η, fun b => ∃ j l, lkO L.m j = some l ∧ η j b, G, [], []⟩ η' ⟨L'.nx, L.nx, L'.m⟩ h' ∧
      RdV h' (Fz (Env.gd ⟨h, η, fun b => ∃ j l, lkO L.m j = some l ∧ η j b, G, [], []⟩) η' L'.m) η' d v ∧ Keeps h h' η η' (memN ks)

theorem DCalls.mono {f : Nat} {args : List DV} {K K' : KK} (H : DCalls P f args L K) (hk : ∀ d L' ks, K d L' ks → K' d L' ks) : DCalls P f args L K' :=
  ⟨H.1, fun h η G vs B O hp => (H.2 h η G vs B O hp).mono fun _ _ ⟨d, L', ks, η', k, r⟩ => ⟨d, L', ks, η', hk _ _ _ k, r⟩⟩

theorem OwnR.mono {G' : Nat → Prop} (O : OwnR h G η L) (hG : ∀ b, G b → G' b) : OwnR h G' η L := by
  have S : Stays h h (Fz G η L.m) (Fz G' η L.m) := fun b hb hF => ⟨hb, ⟨hG b hF.1, hF.2⟩, rfl⟩
  refine ⟨fun j x hj => ?_, O.lt, O.fn, O.inj⟩
  rcases O.loc j x hj with ⟨b, h1, h2⟩ | h1
  · exact .inl ⟨b, h1, h2.mono S .refl⟩
  · exact .inr h1

/-- A contract, as a caller sees it. -/
theorem DCalls.use {f : Nat} {args : List DV} {K : KK} (H : DCalls P f args L K) (R : HS E η L h) (B : Base P h) {vs : List Value} (hp : PV h (Fz E.gd η L.m) η args vs) :
    ACalls P f vs h (EffP E h η L K) := by
  refine (H.2 h η E.gd vs B R.own hp).mono ?_
  rintro v h' ⟨d, L', ks, η', hK, hfx, HS', hv, hkp⟩
  have hgd : Env.gd ⟨h, η, fun b => ∃ j l, lkO L.m j = some l ∧ η j b, E.gd, [], []⟩ = E.gd := by
    funext b
    apply propext
    constructor
    · rintro (q | q)
      · exact .inl (Nat.le_trans R.le q)
      · exact q
    · exact fun q => .inr q
  have hown := HS'.own
  rw [hgd] at hown hv
  have hO : ∀ b, b < E.h.n → ¬ E.O b → ¬ ∃ j l, lkO L.m j = some l ∧ η j b := by
    rintro b hb hno ⟨j, l, hj, hη⟩
    rcases R.mine j l b hj hη with q | q
    · omega
    · exact hno q.1
  refine ⟨d, L', ks, η', hK, ⟨⟨hown.loc, hown.lt, hown.fn, hown.inj⟩, HS'.gone, Nat.le_trans R.le HS'.le, fun b hb hno => ?_, fun j l b hj hη => ?_, fun j b hj hη => ?_, fun j b hη => by rw [hfx]; exact R.rs j b hη, ⟨by rw [hfx]; exact Nat.le_trans R.bk.1 HS'.bk.1, fun j b hj hη => R.bk.2 j b (by rw [← hfx]; exact hj) (HS'.bk.2 j b (by have := R.bk.1; have hj : j < L'.fx := hj; show j < L.nx; omega) hη)⟩, fun j b hη => ?_⟩, hv, ?_, hkp⟩
  · rw [HS'.keep b (by have := R.le; show b < h.n; omega) (hO b hb hno)]
    exact R.keep b hb hno
  · rcases HS'.mine j l b hj hη with q | ⟨⟨j0, l0, q1, q2⟩, q3⟩
    · exact .inl (Nat.le_trans R.le q)
    · have hjj : η' j0 b := (HS'.fix j0 b (R.own.lt j0 b q2).1 q2).1
      have : j0 = j := hown.inj j0 j b hjj hη
      subst this
      rcases R.mine j0 l0 b q1 q2 with q | q
      · exact .inl q
      · exact .inr ⟨q.1, by rw [hfx]; exact q.2⟩
  · obtain ⟨h1, h2, h3⟩ := R.fix j b (by rw [← hfx]; exact hj) hη
    obtain ⟨k1, k2, k3⟩ := HS'.fix j b (R.own.lt j b h1).1 h1
    exact ⟨k1, k2.trans h2, k3.trans h3⟩
  · rcases HS'.nm j b hη with q | ⟨j0, l0, q1, q2⟩ | q
    · exact .inl (Nat.le_trans R.le q)
    · have hjj : η' j0 b := (HS'.fix j0 b (R.own.lt j0 b q2).1 q2).1
      have : j0 = j := hown.inj j0 j b hjj hη
      subst this
      exact R.nm j0 b q2
    · exact R.nm j b q
  · intro b hb hF
    have hno : ¬ ∃ j l, lkO L.m j = some l ∧ η j b := fun ⟨j, l, q1, q2⟩ => hF.2 j l q1 q2
    refine ⟨by have : h.n ≤ h'.n := HS'.le; omega, ⟨hF.1, fun j l hj hη => ?_⟩, HS'.keep b hb hno⟩
    rcases HS'.mine j l b hj hη with q | q
    · have : h.n ≤ b := q
      omega
    · exact hno q.1

/-- What is said of a call's outcome: its value, the slots, what is one's own. -/
abbrev KT := DV → DT → Own → Prop

/-- A call, as it is made out of a state. -/
def DI (P : Program) (f : Nat) (args : List DV) (t : DT) (L : Own) (K : KT) : Prop :=
  (∃ fn, P.funcs[f]? = some fn ∧ fn.body.isSome = true) ∧
  ∀ (E : Env) (η : Nat → Nat → Prop) (s : AS) (vs : List Value), Base P E.h → Base P s.h → RS E η ⟨t, L⟩ s → PV s.h (Fz E.gd η L.m) η args vs →
    ACalls P f vs s.h fun v h' => ∃ d t' L' η', K d t' L' ∧ RdV h' (Fz E.gd η' L'.m) η' d v ∧ RS E η' ⟨t', L'⟩ ⟨s.t, h', s.d⟩

theorem DI.mono {f : Nat} {args : List DV} {K K' : KT} (H : DI P f args t L K) (hk : ∀ d t' L', K d t' L' → K' d t' L') : DI P f args t L K' :=
  ⟨H.1, fun E η s vs B0 B R hp => (H.2 E η s vs B0 B R hp).mono fun _ _ ⟨d, t', L', η', k, r⟩ => ⟨d, t', L', η', hk _ _ _ k, r⟩⟩

theorem DCalls.toDI {f : Nat} {args : List DV} {K : KK} (H : DCalls P f args L K) : DI P f args t L fun d t' L' => ∃ ks, K d L' ks ∧ t' = killT ks t := by
  refine ⟨H.1, fun E η s vs _ B R hp => (H.use R.hs B hp).mono ?_⟩
  rintro v h' ⟨d, L', ks, η', hK, H', hv, M⟩
  exact ⟨d, _, L', η', ⟨ks, hK, rfl⟩, hv, Slots.kill R.slots M, H', R.d.mv M, R.lt, R.sv⟩

/-- A round's call. -/
def AYields (P : Program) (l : Nat) (args : List Value) (h : AHeap) (R : Value → AHeap → Prop) : Prop :=
  ∀ (o : Oper) (t : PT), aop P (pev t) h o = some (.round l args) → knows t o = true → OpK P o t h R

def DY (P : Program) (j : Nat) (args : List DV) (t : DT) (L : Own) (K : KT) : Prop :=
  ∀ (E : Env) (η : Nat → Nat → Prop) (s : AS) (vs : List Value) (b : Nat), Base P E.h → Base P s.h → RS E η ⟨t, L⟩ s → PV s.h (Fz E.gd η L.m) η args vs → η j b →
    AYields P b vs s.h fun v h' => ∃ d t' L' η', K d t' L' ∧ RdV h' (Fz E.gd η' L'.m) η' d v ∧ RS E η' ⟨t', L'⟩ ⟨s.t, h', s.d⟩

theorem DY.mono {j : Nat} {args : List DV} {K K' : KT} (H : DY P j args t L K) (hk : ∀ d t' L', K d t' L' → K' d t' L') : DY P j args t L K' :=
  fun E η s vs b B0 B R hp hb o st ho hk' => (H E η s vs b B0 B R hp hb o st ho hk').mono fun _ _ ⟨d, t', L', η', k, r⟩ => ⟨d, t', L', η', hk _ _ _ k, r⟩

/-- What is known of calls. -/
abbrev CO := Nat → List DV → DT → Own → KT → Prop

def COk (P : Program) (C : CO) : Prop := ∀ f args t L K, C f args t L K → DI P f args t L K

end Go.Am

