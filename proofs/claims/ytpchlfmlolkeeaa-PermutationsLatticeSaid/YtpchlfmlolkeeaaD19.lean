/-
  The data layer: loops, functions, frames.
-/
import Derived.Test.YtpchlfmlolkeeaaD18
set_option linter.unusedSimpArgs false
set_option linter.unusedVariables false
namespace Go.Am
open Go Go.RowKit

variable {P : Program} {o : Oper} {st : PT} {h : AHeap} {G F : Nat → Prop} {η : Nat → Nat → Prop} {t : DT} {L : Own} {side : Option Prop} {d : DV} {E : Env} {n : NN} {C : CO}

/-- One state tells no less than another. -/
def DEnt (ds ds' : DS) : Prop := ∀ (E : Env) (η : Nat → Nat → Prop) (s : AS), RS E η ds s → ∃ η', RS E η' ds' s

theorem DEnt.refl {ds : DS} : DEnt ds ds := fun _ η _ R => ⟨η, R⟩
theorem DEnt.trans {a b c : DS} (h : DEnt a b) (k : DEnt b c) : DEnt a c := fun E η s R => let ⟨η1, R1⟩ := h E η s R; k E η1 s R1

def geN (N j : Nat) : Bool := Nat.ble N j

def SubT (N : Nat) (t : DT) : DT → Prop
  | [] => True
  | (i, d) :: r => (∃ d0, lk t i = some d0 ∧ d0.kill (geN N) = d) ∧ SubT N t r

def SubO (N : Nat) (m : List (Nat × Loc)) : List (Nat × Loc) → Prop
  | [] => True
  | (j, l) :: r => (j < N ∧ ∃ l0, lkO m j = some l0 ∧ l0.kill (geN N) = l) ∧ SubO N m r

theorem SubT.get {N : Nat} : ∀ (t' : DT), SubT N t t' → ∀ i d, lk t' i = some d → ∃ d0, lk t i = some d0 ∧ d0.kill (geN N) = d
  | [], _, i, d, h => by cases h
  | (j, x) :: r, hs, i, d, h => by
    simp only [lk] at h
    cases hb : Nat.beq i j with
    | true =>
      have := Nat.eq_of_beq_eq_true hb
      subst this
      simp only [hb, cond_true, Option.some.injEq] at h
      subst h
      exact hs.1
    | false =>
      simp only [hb, cond_false] at h
      exact SubT.get r hs.2 i d h

theorem SubO.get {N : Nat} {m : List (Nat × Loc)} : ∀ (m' : List (Nat × Loc)), SubO N m m' → ∀ j l, lkO m' j = some l → j < N ∧ ∃ l0, lkO m j = some l0 ∧ l0.kill (geN N) = l
  | [], _, j, l, h => by cases h
  | (k, x) :: r, hs, j, l, h => by
    by_cases hjk : j = k
    · subst hjk
      rw [lkO_cons_eq] at h
      cases h
      exact hs.1
    · rw [lkO_cons_ne hjk] at h
      exact SubO.get r hs.2 j l h

/-- Names from N on are forgotten. -/
theorem HS.cut (H : HS E η L h) {L' : Own} (hfx : L'.fx = L.fx) (hfn : L'.fx ≤ L'.nx) (ho : SubO L'.nx L.m L'.m) :
    HS E (fun j b => η j b ∧ j < L'.nx) L' h ∧ Mv E.gd η L h (fun j b => η j b ∧ j < L'.nx) L' h (geN L'.nx) := by
  have M : Mv E.gd η L h (fun j b => η j b ∧ j < L'.nx) L' h (geN L'.nx) := by
    refine ⟨fun b hb hF => ⟨hb, ⟨hF.1, fun j l hj hη => ?_⟩, rfl⟩, fun j b hp hη => ⟨⟨hη, ?_⟩, rfl, rfl⟩⟩
    · obtain ⟨_, l0, h1, _⟩ := SubO.get _ ho j l hj
      exact hF.2 j l0 h1 hη.1
    · unfold geN at hp
      have : ¬ L'.nx ≤ j := fun hq => by have := Nat.ble_eq_true_of_le hq; rw [this] at hp; cases hp
      omega
  refine ⟨⟨⟨fun j l hj => ?_, fun j b hη => ⟨hη.2, (H.own.lt j b hη.1).2⟩, fun j b b' p q => H.own.fn j b b' p.1 q.1, fun i j b p q => H.own.inj i j b p.1 q.1⟩, H.gone, H.le, H.keep, fun j l b hj hη => ?_, H.fix_mv M.kp (fun j hj => by unfold geN; cases hb : Nat.ble L'.nx j with | false => rfl | true => (have := Nat.le_of_ble_eq_true hb; omega)) hfx, fun j b hη => by rw [hfx]; exact H.rs j b hη, ⟨hfn, fun j b hj hη => H.bk.2 j b (by rw [← hfx]; exact hj) hη.1⟩, fun j b hη => H.nm j b hη.1⟩, M⟩
  · obtain ⟨hlt, l0, h1, rfl⟩ := SubO.get _ ho j l hj
    rcases H.own.loc j l0 h1 with ⟨b, g1, g2⟩ | ⟨⟨e, xs, g1, g2⟩, g3, g4⟩
    · exact .inl ⟨b, ⟨g1, hlt⟩, g2.kill M.st M.kp⟩
    · exact .inr ⟨⟨e, xs, by rw [g1]; rfl, g2⟩, hlt, fun b hb => g4 b hb.1⟩
  · obtain ⟨hlt, l0, h1, _⟩ := SubO.get _ ho j l hj
    rw [hfx]
    exact H.mine j l0 b h1 hη.1

theorem DEnt.sub {t' : DT} {L' : Own} (hfx : L'.fx = L.fx) (hfn : L'.fx ≤ L'.nx) (ht : SubT L'.nx t t') (ho : SubO L'.nx L.m L'.m) : DEnt ⟨t, L⟩ ⟨t', L'⟩ := by
  intro E η s R
  obtain ⟨H', M⟩ := R.hs.cut hfx hfn ho
  refine ⟨_, fun i d hd => ?_, H', R.d.mv M, R.lt, R.sv⟩
  obtain ⟨d0, h1, rfl⟩ := SubT.get t' ht i d hd
  obtain ⟨v, h2, h3⟩ := R.slots i d0 h1
  exact ⟨v, h2, h3.kill M.st M.kp⟩

theorem DW.ent {c : Code} {Q : QQ} {ds ds' : DS} (he : DEnt ds ds') (H : DW P n c Q ds') : DW P n c Q ds := fun E η s N B R => let ⟨η', R'⟩ := he E η s R; H E η' s N B R'

/-! What a range has left is done. -/

theorem killA_get : ∀ (ds : List Nat) (h : AHeap) (b : Nat), Left h ds → ((killA h ds).get b = h.get b ∧ b ∉ ds) ∨ ((killA h ds).get b = .deferred true ∧ h.get b = .deferred false ∧ b ∈ ds)
  | [], _, _, _ => .inl ⟨rfl, by simp⟩
  | c :: ds, h, b, ⟨h1, h2, h3⟩ => by
    simp only [killA]
    rcases killA_get ds (h.set c (.deferred true)) b (Left.set h2 h3) with ⟨e, hn⟩ | ⟨e, e2, hn⟩
    · by_cases hb : b = c
      · subst hb
        exact .inr ⟨by rw [e, AHeap.get_set, if_pos rfl], h1, by simp⟩
      · exact .inl ⟨by rw [e, AHeap.get_set, if_neg hb], by simp [hb, hn]⟩
    · have hb : b ≠ c := fun e => h2 (e ▸ hn)
      rw [AHeap.get_set, if_neg hb] at e2
      exact .inr ⟨e, e2, by simp [hn]⟩

theorem killA_n : ∀ (ds : List Nat) (h : AHeap), (killA h ds).n = h.n
  | [], _ => rfl
  | _ :: ds, h => by simp only [killA]; rw [killA_n ds]; rfl

def F1 (h : AHeap) (F : Nat → Prop) (b : Nat) : Prop := F b ∧ (h.get b).row.isSome = true

theorem areadN_row {b i n : Nat} {cs : List Value} (e : areadN h b i n = some cs) : (h.get b).row.isSome = true := by
  unfold areadN at e
  cases hr : (h.get b).row with
  | none => rw [hr] at e; cases e
  | some _ => rfl

theorem SlV.shrink {α : Type} {R R' : List Value → α → Prop} (H : ∀ c x, R c x → R' c x) {sz : Nat} {s : Sl α} {v : Value} (hs : SlV h F sz R s v) : SlV h (F1 h F) sz R' s v := by
  rcases hs with hs | ⟨b, o, c, cs, h1, h2, h3, h4, h5, h6, hz, h7, h8⟩
  · exact .inl hs
  · exact .inr ⟨b, o, c, cs, h1, h2, ⟨h3, areadN_row h7⟩, h4, h5, h6, hz, h7, Cells.mono H _ _ h8⟩

theorem RdC.shrink : ∀ (t : Ty) (cs : List Value) (x : t.D), RdC h F t cs x → RdC h (F1 h F) t cs x
  | .int _, _, _, e => e
  | .bool, _, _, e => e
  | .str, _, _, e => e
  | .unit, _, _, e => e
  | .pair a b, _, _, ⟨c1, c2, e, h1, h2⟩ => ⟨c1, c2, e, RdC.shrink a _ _ h1, RdC.shrink b _ _ h2⟩
  | .sl e, _, _, ⟨v, hv, hs⟩ => ⟨v, hv, hs.shrink (fun c x hx => RdC.shrink e c x hx)⟩

theorem RdV.shrink {d : DV} {v : Value} (H : RdV h F η d v) : RdV h (F1 h F) η d v := by
  induction H with
  | int k x => exact .int k x
  | bool b => exact .bool b
  | lit b => exact .lit b
  | str s => exact .str s
  | sl hs => exact .sl (hs.shrink (RdC.shrink _))
  | agg hl _ ih => exact .agg hl ih
  | tup hl _ ih => exact .tup hl ih
  | osl c n o h0 h1 h2 h3 h4 h5 h8 h6 => exact .osl c n o h0 h1 h2 h3 h4 h5 h8 h6
  | onil hc ho => exact .onil hc ho
  | bptr off h0 => exact .bptr off h0
  | aptr e i off h0 => exact .aptr e i off h0
  | fptr h1 h2 h3 h4 => exact .fptr h1 ⟨h2, areadN_row h3⟩ h3 (RdC.shrink _ _ _ h4)
  | clo a _ c _ ih1 ih2 => exact .clo a ih1 c ih2
  | yl h0 => exact .yl h0
  | nilF => exact .nilF
  | nilP => exact .nilP
  | nilI => exact .nilI
  | nils => exact .nils
  | und => exact .und
  | any v => exact .any v

theorem LocR.shrink {o : AObj} {l : Loc} (H : LocR h F η o l) : LocR h (F1 h F) η o l := by
  cases H with
  | lp hta hv => exact .lp hta fun i d hd => let ⟨v, h2, h3⟩ := hv i d hd; ⟨v, h2, h3.shrink⟩
  | box hl hv => exact .box hl fun i d x hd hx => (hv i d x hd hx).shrink
  | arr hc => exact .arr (Cells.mono (RdC.shrink _) _ _ hc)

theorem DfR.left {m : List (Nat × Loc)} : ∀ {ds es : List Nat}, DfR E η m h (ds ++ es) → Left h ds
  | [], _, _ => trivial
  | b :: ds, es, D => ⟨(D.get b (by simp)).2.2.2, fun hm => (List.nodup_cons.1 D.nd).1 (by simp [hm]), DfR.left (es := es) ⟨fun c hc => D.get c (by simp only [List.cons_append, List.mem_cons]; exact .inr hc), (List.nodup_cons.1 D.nd).2⟩⟩

theorem RS.unwind {s : AS} (R : RS E η ⟨t, L⟩ s) : Left s.h s.d ∧ RS E η ⟨t, L⟩ ⟨s.t, killA s.h s.d, []⟩ := by
  have hL := R.d.left
  refine ⟨hL, ?_⟩
  have hg := fun b => killA_get s.d s.h b hL
  have hn := killA_n s.d s.h
  have S : Stays s.h (killA s.h s.d) (F1 s.h (Fz E.gd η L.m)) (Fz E.gd η L.m) := fun b hb hF => by
    refine ⟨by omega, hF.1, ?_⟩
    rcases hg b with ⟨e, _⟩ | ⟨_, e, _⟩
    · exact e
    · have := hF.2; rw [e] at this; cases this
  have Kp : Keeps s.h (killA s.h s.d) η η fun _ => false := fun j b _ hη => by
    refine ⟨hη, ?_, ?_⟩
    · unfold blen
      rcases hg b with ⟨e, _⟩ | ⟨e, e2, _⟩
      · rw [e]
      · rw [e, e2]; rfl
    · unfold eszOf
      rcases hg b with ⟨e, _⟩ | ⟨e, e2, _⟩
      · rw [e]
      · rw [e, e2]
  have nm : ∀ (b : Nat), b ∈ s.d → E.h.n ≤ b ∧ Fz E.gd η L.m b := fun b hb => ⟨(R.d.get b (by simp [hb])).1, (R.d.get b (by simp [hb])).2.2.1⟩
  refine ⟨fun i d hd => ?_, ⟨⟨fun j l hj => ?_, fun j b hη => ?_, R.hs.own.fn, R.hs.own.inj⟩, fun b hb => ?_, ?_, fun b hb hO => ?_, R.hs.mine, fun j b hj hη => ?_, R.hs.rs, R.hs.bk, R.hs.nm⟩, ⟨fun b hb => ?_, by simpa using (List.nodup_append.1 R.d.nd).2.1⟩, R.lt, R.sv⟩
  rotate_right
  · have hb' : b ∈ E.dv := by simpa using hb
    obtain ⟨g1, g2, g3, g4⟩ := R.d.get b (by simp [hb'])
    refine ⟨g1, by show b < (killA s.h s.d).n; rw [hn]; exact g2, g3, ?_⟩
    show (killA s.h s.d).get b = _
    rcases hg b with ⟨e, _⟩ | ⟨_, _, hm⟩
    · rw [e]; exact g4
    · exact ((List.nodup_append.1 R.d.nd).2.2 b hm b hb' rfl).elim
  · obtain ⟨v, h1, h2⟩ := R.slots i d hd
    exact ⟨v, h1, h2.shrink.mono S Kp⟩
  · rcases R.hs.own.loc j l hj with ⟨b, h1, h2⟩ | h1
    · refine .inl ⟨b, h1, ?_⟩
      have e : (killA s.h s.d).get b = s.h.get b := by
        rcases hg b with ⟨e, _⟩ | ⟨_, _, hm⟩
        · exact e
        · exact ((nm b hm).2.2 j l hj h1).elim
      show LocR _ _ η ((killA s.h s.d).get b) l
      rw [e]
      exact h2.shrink.mono S Kp
    · exact .inr h1
  · have := R.hs.own.lt j b hη
    exact ⟨this.1, by show b < (killA s.h s.d).n; rw [hn]; exact this.2⟩
  · have hb' : s.h.n ≤ b := by have : (killA s.h s.d).n ≤ b := hb; rw [hn] at this; exact this
    show (killA s.h s.d).get b = .dead
    rcases hg b with ⟨e, _⟩ | ⟨_, e, _⟩
    · rw [e]; exact R.hs.gone b hb'
    · have := R.hs.gone b hb'; rw [e] at this; cases this
  · show E.h.n ≤ (killA s.h s.d).n
    rw [hn]; exact R.hs.le
  · show (killA s.h s.d).get b = E.h.get b
    rcases hg b with ⟨e, _⟩ | ⟨_, _, hm⟩
    · rw [e]; exact R.hs.keep b hb hO
    · have := (nm b hm).1; omega
  · obtain ⟨h1, h2, h3⟩ := R.hs.fix j b hj hη
    obtain ⟨k1, k2, k3⟩ := Kp j b rfl h1
    exact ⟨k1, k2.trans h2, k3.trans h3⟩

/-! Functions. -/

inductive DRes where
  | t (i : Nat)
  | c (a n : Nat) (agg : Bool)

def resRes (P : Program) : ResultVar → DRes → Bool
  | .tmp i, .t j => Nat.beq i j && Nat.blt i FB
  | .cell a ty, .c b n agg => Nat.beq a b && Nat.blt a FB && (aisAgg P ty == some agg) && (asize P ty == some n)
  | _, _ => false

def resRess (P : Program) : List ResultVar → List DRes → Bool
  | [], [] => true
  | a :: l, b :: r => resRes P a b && resRess P l r
  | _, _ => false

def dres1 (t : DT) (m : List (Nat × Loc)) : DRes → Option PRes
  | .t i => (lk t i).map fun d => (none, unl d)
  | .c a n agg => match lk t a with
    | some d => dLoad n agg m d
    | none => none

def dress (t : DT) (m : List (Nat × Loc)) : List DRes → (List DV → Prop) → Prop
  | [], k => k []
  | r :: rs, k => match dres1 t m r with
    | some (side, d) => sideP side (dress t m rs fun l => k (d :: l))
    | none => False

def finDV : List DV → DV
  | [d] => d
  | l => .tup l

def sidesP : List Prop → Prop → Prop
  | [], X => X
  | p :: r, X => p ∧ sidesP r X

mutual
/-- What is one's own from fx on is frozen. -/
def frzV (fx : Nat) (m : List (Nat × Loc)) : DV → List Prop × DV
  | .osl j e off len cap => bif Nat.ble fx j then
      match lkO m j with
      | some (.arr e' xs) => if h : e' = e then ([off + len ≤ (h ▸ xs : List e.D).length], .sl e ⟨((h ▸ xs : List e.D).drop off).take len, cap⟩) else ([], .any)
      | _ => ([], .any)
    else ([], .osl j e off len cap)
  | .agg l => ((frzVs fx m l).1, .agg (frzVs fx m l).2)
  | .tup l => ((frzVs fx m l).1, .tup (frzVs fx m l).2)
  | .int k x => ([], .int k x)
  | .bool b => ([], .bool b)
  | .lit b => ([], .lit b)
  | .str s => ([], .str s)
  | .sl e s => ([], .sl e s)
  | .bptr j off => ([], .bptr j off)
  | .aptr j e i off => ([], .aptr j e i off)
  | .fptr t x => ([], .fptr t x)
  | .clo f xs us => ([], .clo f xs us)
  | .yl j => ([], .yl j)
  | .nilF => ([], .nilF)
  | .nilP => ([], .nilP)
  | .nilI => ([], .nilI)
  | .nils => ([], .nils)
  | .und => ([], .und)
  | .any => ([], .any)
def frzVs (fx : Nat) (m : List (Nat × Loc)) : List DV → List Prop × List DV
  | [] => ([], [])
  | d :: l => ((frzV fx m d).1 ++ (frzVs fx m l).1, (frzV fx m d).2 :: (frzVs fx m l).2)
end

def cutO (N : Nat) : List (Nat × Loc) → List (Nat × Loc)
  | [] => []
  | (j, l) :: r => bif Nat.blt j N then (j, l.kill (geN N)) :: cutO N r else cutO N r

theorem kill_kill (p q : Nat → Bool) (hpq : ∀ j, q j = true → p j = true) : ∀ d : DV, (d.kill p).kill q = d.kill p := by
  intro d
  induction d using DV.rec (motive_2 := fun l => DV.killL q (DV.killL p l) = DV.killL p l) with
  | osl j e off len cap =>
    simp only [DV.kill]
    cases hp : p j with
    | true => rfl
    | false => simp only [cond_false, DV.kill]; cases hq : q j with | true => rw [hpq j hq] at hp; cases hp | false => rfl
  | bptr j off =>
    simp only [DV.kill]
    cases hp : p j with
    | true => rfl
    | false => simp only [cond_false, DV.kill]; cases hq : q j with | true => rw [hpq j hq] at hp; cases hp | false => rfl
  | aptr j e i off =>
    simp only [DV.kill]
    cases hp : p j with
    | true => rfl
    | false => simp only [cond_false, DV.kill]; cases hq : q j with | true => rw [hpq j hq] at hp; cases hp | false => rfl
  | yl j =>
    simp only [DV.kill]
    cases hp : p j with
    | true => rfl
    | false => simp only [cond_false, DV.kill]; cases hq : q j with | true => rw [hpq j hq] at hp; cases hp | false => rfl
  | agg l ih => simp only [DV.kill, ih]
  | tup l ih => simp only [DV.kill, ih]
  | clo f xs us ih1 ih2 => simp only [DV.kill, ih1, ih2]
  | nil => rfl
  | cons d l ih1 ih2 => simp only [DV.killL, ih1, ih2]
  | _ => rfl

theorem kill_sub (p q : Nat → Bool) (hpq : ∀ j, p j = true → q j = true) : ∀ d : DV, (d.kill p).kill q = d.kill q := by
  intro d
  induction d using DV.rec (motive_2 := fun l => DV.killL q (DV.killL p l) = DV.killL q l) with
  | osl j e off len cap =>
    simp only [DV.kill]
    cases hp : p j with
    | true => simp only [cond_true, hpq j hp, DV.kill]
    | false => simp only [cond_false, DV.kill]
  | bptr j off =>
    simp only [DV.kill]
    cases hp : p j with
    | true => simp only [cond_true, hpq j hp, DV.kill]
    | false => simp only [cond_false, DV.kill]
  | aptr j e i off =>
    simp only [DV.kill]
    cases hp : p j with
    | true => simp only [cond_true, hpq j hp, DV.kill]
    | false => simp only [cond_false, DV.kill]
  | yl j =>
    simp only [DV.kill]
    cases hp : p j with
    | true => simp only [cond_true, hpq j hp, DV.kill]
    | false => simp only [cond_false, DV.kill]
  | agg l ih => simp only [DV.kill, ih]
  | tup l ih => simp only [DV.kill, ih]
  | clo f xs us ih1 ih2 => simp only [DV.kill, ih1, ih2]
  | nil => rfl
  | cons d l ih1 ih2 => simp only [DV.killL, ih1, ih2]
  | _ => rfl

theorem cutO_mono {N M : Nat} (hNM : N ≤ M) : ∀ {m : List (Nat × Loc)}, cutO N m = m → cutO M m = m
  | [], _ => rfl
  | (j, l) :: r, h => by
    simp only [cutO] at h ⊢
    cases hb : Nat.blt j N with
    | true =>
      simp only [hb, cond_true, List.cons.injEq, Prod.mk.injEq, true_and] at h
      have hj : j < N := by simpa [Nat.blt_eq] using hb
      have hb2 : Nat.blt j M = true := by rw [Nat.blt_eq]; omega
      simp only [hb2, cond_true, List.cons.injEq, Prod.mk.injEq, true_and]
      refine ⟨?_, cutO_mono hNM h.2⟩
      have h1 := h.1
      cases l with
      | arr e xs => rfl
      | lp st pe n ps a b t0 =>
        simp only [Loc.kill, Loc.lp.injEq, true_and] at h1 ⊢
        rw [← h1, List.map_map]
        refine List.map_congr_left fun x _ => ?_
        simp only [Function.comp]
        have hkk := kill_kill (geN N) (geN M) (fun j hq => Nat.ble_eq_true_of_le (by have := Nat.le_of_ble_eq_true hq; omega)) x.2
        rw [hkk]
      | box cells =>
        simp only [Loc.kill, Loc.box.injEq] at h1 ⊢
        rw [← h1, DV.killL_map, DV.killL_map, List.map_map]
        refine List.map_congr_left fun d _ => ?_
        exact kill_kill _ _ (fun j hq => Nat.ble_eq_true_of_le (by have := Nat.le_of_ble_eq_true hq; omega)) d
    | false =>
      simp only [hb, cond_false] at h
      have hlen : ∀ m : List (Nat × Loc), (cutO N m).length ≤ m.length := by
        intro m
        induction m with
        | nil => exact Nat.le_refl _
        | cons x m ih =>
          obtain ⟨k, w⟩ := x
          simp only [cutO]
          cases Nat.blt k N <;> simp only [cond_true, cond_false, List.length_cons] <;> omega
      have := hlen r
      rw [h, List.length_cons] at this
      omega

/-- At a function's end. -/
def fnQ (rs : List DRes) (fx fx0 : Nat) (K : KK) : QQ
  | .ret, s | .normal, s => bif Nat.beq s.L.fx fx then dress s.t s.L.m rs fun l => sidesP (frzV fx s.L.m (finDV l)).1 (K ((frzV fx s.L.m (finDV l)).2.kill (geN fx)) ⟨fx, fx0, cutO fx s.L.m⟩ []) else False
  | _, _ => False

theorem sidesP_sound : ∀ {l : List Prop} {X : Prop}, sidesP l X → (∀ p ∈ l, p) ∧ X
  | [], X, h => ⟨fun p hp => by simp at hp, h⟩
  | p :: r, X, ⟨h1, h2⟩ => by
    obtain ⟨g1, g2⟩ := sidesP_sound h2
    refine ⟨fun q hq => ?_, g2⟩
    cases hq with
    | head => exact h1
    | tail _ hq => exact g1 q hq

theorem lkO_cutO {N : Nat} : ∀ (m : List (Nat × Loc)) (j : Nat) (l : Loc), lkO (cutO N m) j = some l → j < N ∧ ∃ l0, lkO m j = some l0 ∧ l0.kill (geN N) = l
  | [], j, l, h => by cases h
  | (k, x) :: m, j, l, h => by
    simp only [cutO] at h
    cases hb : Nat.blt k N with
    | true =>
      simp only [hb, cond_true] at h
      have hk : k < N := by simpa [Nat.blt_eq] using hb
      by_cases hjk : j = k
      · subst hjk
        rw [lkO_cons_eq] at h
        cases h
        exact ⟨hk, x, lkO_cons_eq, rfl⟩
      · rw [lkO_cons_ne hjk] at h ⊢
        exact lkO_cutO m j l h
    | false =>
      simp only [hb, cond_false] at h
      obtain ⟨g1, g2⟩ := lkO_cutO m j l h
      have : ¬ k < N := fun hq => by have : Nat.blt k N = true := by rw [Nat.blt_eq]; exact hq
                                     rw [hb] at this; cases this
      refine ⟨g1, ?_⟩
      rw [lkO_cons_ne (by omega)]
      exact g2

/-- Only the lookups count. -/
theorem HS.cut' (H : HS E η L h) {L' : Own} (hfx : L'.fx = L.fx) (hfn : L'.fx ≤ L'.nx) (ho : ∀ j l, lkO L'.m j = some l → j < L'.nx ∧ ∃ l0, lkO L.m j = some l0 ∧ l0.kill (geN L'.nx) = l) :
    HS E (fun j b => η j b ∧ j < L'.nx) L' h ∧ Mv E.gd η L h (fun j b => η j b ∧ j < L'.nx) L' h (geN L'.nx) := by
  have M : Mv E.gd η L h (fun j b => η j b ∧ j < L'.nx) L' h (geN L'.nx) := by
    refine ⟨fun b hb hF => ⟨hb, ⟨hF.1, fun j l hj hη => ?_⟩, rfl⟩, fun j b hp hη => ⟨⟨hη, ?_⟩, rfl, rfl⟩⟩
    · obtain ⟨_, l0, h1, _⟩ := ho j l hj
      exact hF.2 j l0 h1 hη.1
    · unfold geN at hp
      have : ¬ L'.nx ≤ j := fun hq => by have := Nat.ble_eq_true_of_le hq; rw [this] at hp; cases hp
      omega
  refine ⟨⟨⟨fun j l hj => ?_, fun j b hη => ⟨hη.2, (H.own.lt j b hη.1).2⟩, fun j b b' p q => H.own.fn j b b' p.1 q.1, fun i j b p q => H.own.inj i j b p.1 q.1⟩, H.gone, H.le, H.keep, fun j l b hj hη => ?_, H.fix_mv M.kp (fun j hj => by unfold geN; cases hb : Nat.ble L'.nx j with | false => rfl | true => (have := Nat.le_of_ble_eq_true hb; omega)) hfx, fun j b hη => by rw [hfx]; exact H.rs j b hη, ⟨hfn, fun j b hj hη => H.bk.2 j b (by rw [← hfx]; exact hj) hη.1⟩, fun j b hη => H.nm j b hη.1⟩, M⟩
  · obtain ⟨hlt, l0, h1, rfl⟩ := ho j l hj
    rcases H.own.loc j l0 h1 with ⟨b, g1, g2⟩ | ⟨⟨e, xs, g1, g2⟩, g3, g4⟩
    · exact .inl ⟨b, ⟨g1, hlt⟩, g2.kill M.st M.kp⟩
    · exact .inr ⟨⟨e, xs, by rw [g1]; rfl, g2⟩, hlt, fun b hb => g4 b hb.1⟩
  · obtain ⟨hlt, l0, h1, _⟩ := ho j l hj
    rw [hfx]
    exact H.mine j l0 b h1 hη.1

theorem frz_sound' (H : HS E η L h) {fx j : Nat} (hfx : L.fx ≤ fx) (hjf : fx ≤ j) {e : Ty} {xs : List e.D} (hj : lkO L.m j = some (.arr e xs)) {off len : Nat} {cap : Option Nat} {v : Value} (hle : off + len ≤ xs.length)
    (hv : RdV h (Fz E.gd η L.m) η (.osl j e off len cap) v) : SlV h (Fz E.gd (fun j b => η j b ∧ j < fx) (cutO fx L.m)) e.size (RdC h (Fz E.gd (fun j b => η j b ∧ j < fx) (cutO fx L.m)) e) ⟨(xs.drop off).take len, cap⟩ v := by
  have h1 := frz_sound H hj (by omega) hle hv
  cases h1 with | sl hs =>
  have S : Stays h h (Fz E.gd η (rmO j L.m)) (Fz E.gd (fun j b => η j b ∧ j < fx) (cutO fx L.m)) := by
    refine fun b hb hF => ⟨hb, ⟨hF.1, fun i l hi hη => ?_⟩, rfl⟩
    obtain ⟨q1, l0, q2, _⟩ := lkO_cutO _ i l hi
    exact hF.2 i l0 (by rw [lkO_rmO_ne (by omega)]; exact q2) hη.1
  exact hs.mono S (RdC.mono S e)


theorem frz_all {fx : Nat} (H : HS E η L h) (hfx : L.fx = fx) : ∀ {d : DV} {v : Value}, RdV h (Fz E.gd η L.m) η d v → (∀ p ∈ (frzV fx L.m d).1, p) →
    RdV h (Fz E.gd (fun j b => η j b ∧ j < fx) (cutO fx L.m)) (fun j b => η j b ∧ j < fx) ((frzV fx L.m d).2.kill (geN fx)) v := by
  obtain ⟨_, M⟩ := H.cut' (L' := ⟨fx, fx, cutO fx L.m⟩) hfx.symm (Nat.le_refl _) (fun j l hj => lkO_cutO _ j l hj)
  have hlist : ∀ (l : List DV) (i : Nat) (d' : DV), (DV.killL (geN fx) (frzVs fx L.m l).2)[i]? = some d' → ∃ d0, l[i]? = some d0 ∧ d' = (frzV fx L.m d0).2.kill (geN fx) := by
    intro l
    induction l with
    | nil => intro i d' h; simp [frzVs, DV.killL] at h
    | cons x l ih =>
      intro i d' h
      simp only [frzVs, DV.killL] at h
      cases i with
      | zero => simp at h; exact ⟨x, rfl, h.symm⟩
      | succ i => simp at h; obtain ⟨d0, h1, h2⟩ := ih i d' h; exact ⟨d0, by simpa using h1, h2⟩
  have hlen : ∀ l : List DV, (DV.killL (geN fx) (frzVs fx L.m l).2).length = l.length := by
    intro l
    induction l with
    | nil => rfl
    | cons x l ih => simp [frzVs, DV.killL, ih]
  have hside : ∀ (l : List DV) (i : Nat) (d0 : DV), (∀ p ∈ (frzVs fx L.m l).1, p) → l[i]? = some d0 → ∀ p ∈ (frzV fx L.m d0).1, p := by
    intro l
    induction l with
    | nil => intro i d0 _ h; simp at h
    | cons x l ih =>
      intro i d0 hp h
      simp only [frzVs, List.mem_append] at hp
      cases i with
      | zero => simp at h; subst h; exact fun p hq => hp p (.inl hq)
      | succ i => exact ih i d0 (fun p hq => hp p (.inr hq)) (by simpa using h)
  intro d v hv
  induction hv with
  | int k x => intro _; exact .int k x
  | bool b => intro _; exact .bool b
  | lit b => intro _; exact .lit b
  | str s => intro _; exact .str s
  | sl hs => intro _; exact (RdV.sl hs).kill M.st M.kp
  | agg hl _ ih =>
    intro hp
    simp only [frzV, DV.kill] at hp ⊢
    refine .agg (by rw [hlen]; exact hl) fun i d' x hd hx => ?_
    obtain ⟨d0, h1, rfl⟩ := hlist _ i d' hd
    exact ih i d0 x h1 hx (hside _ i d0 hp h1)
  | tup hl _ ih =>
    intro hp
    simp only [frzV, DV.kill] at hp ⊢
    refine .tup (by rw [hlen]; exact hl) fun i d' x hd hx => ?_
    obtain ⟨d0, h1, rfl⟩ := hlist _ i d' hd
    exact ih i d0 x h1 hx (hside _ i d0 hp h1)
  | @osl j b e off len cap c n o h0 h1 h2 h3 h4 h5 h8 h6 =>
    intro hp
    have hv := RdV.osl (h := h) (F := Fz E.gd η L.m) (η := η) (j := j) (cap := cap) c n o h0 h1 h2 h3 h4 h5 h8 h6
    simp only [frzV] at hp ⊢
    cases hb : Nat.ble fx j with
    | false =>
      simp only [hb, cond_false] at hp ⊢
      exact hv.kill M.st M.kp
    | true =>
      simp only [hb, cond_true] at hp ⊢
      split
      · rename_i e' xs hj
        split
        · rename_i hee
          subst hee
          simp only [hj, dif_pos, List.mem_singleton, forall_eq] at hp
          exact .sl (frz_sound' H (by omega) (Nat.le_of_ble_eq_true hb) hj hp hv)
        · exact .any _
      · exact .any _
  | @onil j e off cap c hc ho =>
    intro hp
    have hv := RdV.onil (h := h) (F := Fz E.gd η L.m) (η := η) (j := j) (e := e) (off := off) hc ho
    simp only [frzV] at hp ⊢
    cases hb : Nat.ble fx j with
    | false =>
      simp only [hb, cond_false] at hp ⊢
      exact hv.kill M.st M.kp
    | true =>
      simp only [hb, cond_true] at hp ⊢
      split
      · rename_i e' xs hj
        split
        · rename_i hee
          subst hee
          simp only [hj, dif_pos, List.mem_singleton, forall_eq] at hp
          exact .sl (frz_sound' H (by omega) (Nat.le_of_ble_eq_true hb) hj hp hv)
        · exact .any _
      · exact .any _
  | bptr off h0 => intro _; exact (RdV.bptr off h0).kill M.st M.kp
  | aptr e i off h0 => intro _; exact (RdV.aptr e i off h0).kill M.st M.kp
  | fptr h1 h2 h3 h4 => intro _; exact (RdV.fptr h1 h2 h3 h4).kill M.st M.kp
  | clo a b c d _ _ => intro _; exact (RdV.clo a b c d).kill M.st M.kp
  | yl h0 => intro _; exact (RdV.yl h0).kill M.st M.kp
  | nilF => intro _; exact .nilF
  | nilP => intro _; exact .nilP
  | nilI => intro _; exact .nilI
  | nils => intro _; exact .nils
  | und => intro _; exact .und
  | any v => intro _; exact .any v

theorem dress_sound {s : AS} (R : RS E η ⟨t, L⟩ s) : ∀ (rs : List DRes) (l : List ResultVar) (k : List DV → Prop), resRess P l rs = true → dress t L.m rs k →
    ∃ ds vs, k ds ∧ l.mapM (prv P s) = some vs ∧ PV s.h (Fz E.gd η L.m) η ds vs
  | [], [], k, _, hd => ⟨[], [], hd, rfl, .nil⟩
  | [], _ :: _, _, hr, _ => by simp [resRess] at hr
  | _ :: _, [], _, hr, _ => by simp [resRess] at hr
  | r :: rs, x :: l, k, hr, hd => by
    simp only [resRess, Bool.and_eq_true] at hr
    simp only [dress] at hd
    split at hd
    rotate_left
    · exact hd.elim
    rename_i side d h1
    obtain ⟨hs, hd⟩ := sideP_sound hd
    have one : ∃ v, prv P s x = some v ∧ RdV s.h (Fz E.gd η L.m) η d v := by
      have q := hr.1
      unfold resRes at q
      split at q
      · simp only [Bool.and_eq_true] at q
        have := Nat.eq_of_beq_eq_true q.1
        subst this
        have hlt := q.2
        rw [Nat.blt_eq] at hlt
        simp only [dres1] at h1
        obtain ⟨d', h2, _, rfl⟩ := map_none h1
        obtain ⟨v, g1, g2⟩ := R.slots _ _ h2
        exact ⟨v, R.own hlt g1, unl_sound g2⟩
      · rename_i a ty b n agg
        simp only [Bool.and_eq_true, beq_iff_eq] at q
        have := Nat.eq_of_beq_eq_true q.1.1.1
        subst this
        simp only [dres1] at h1
        split at h1
        · rename_i d' h2
          obtain ⟨v, g1, g2⟩ := R.slots _ _ h2
          have hlt := q.1.1.2
          rw [Nat.blt_eq] at hlt
          have g1 := R.own hlt g1
          obtain ⟨w, k1, k2⟩ := load_sound R.hs.own g2 q.1.2 q.2 h1 hs
          exact ⟨w, by simp only [prv, g1, Option.bind_some]; exact k1, k2⟩
        · cases h1
      · cases q
    obtain ⟨v, g1, g2⟩ := one
    obtain ⟨ds, vs, k1, k2, k3⟩ := dress_sound R rs l _ hr.2 hd
    refine ⟨d :: ds, v :: vs, k1, ?_, ?_⟩
    · simp only [List.mapM_cons, g1, k2, Option.bind_eq_bind, Option.bind_some, Option.pure_def]
    · have := (PV.one g2).append k3
      simpa using this

def argsD : Nat → List DV → DT
  | _, [] => []
  | i, d :: r => (i, d) :: argsD (i + 1) r

theorem argsD_look {h : AHeap} : ∀ (ds : List DV) (vs : List Value) (i : Nat), PV h F η ds vs → Slots (argsPT i vs) h F η (argsD i ds)
  | [], _, _, _ => fun k d hd => by cases hd
  | d :: ds, [], _, hp => by have := hp.1; simp at this
  | d :: ds, v :: vs, i, hp => by
    intro k d' hd
    simp only [argsD, lk] at hd
    simp only [argsPT, look?]
    cases hb : Nat.beq k i with
    | true =>
      simp only [hb, cond_true, Option.some.injEq] at hd
      subst hd
      exact ⟨v, rfl, hp.2 0 d v rfl rfl⟩
    | false =>
      simp only [hb, cond_false] at hd
      exact argsD_look ds vs (i + 1) ⟨by have := hp.1; simpa using this, fun j e x he hx => hp.2 (j + 1) e x (by simpa using he) (by simpa using hx)⟩ k d' hd

/-- A function's contract out of its body. -/
theorem DCalls.ofDW {f : Nat} {fn : Func} {c0 : Code} {rs : List DRes} {args : List DV} {K : KK} (hf : P.funcs[f]? = some fn) (hb : fn.body = some c0) 
    (hres : resRess P fn.results.toList rs = true) (hn : args.length ≤ fn.ntmps) (hlt : fn.ntmps ≤ FB) (H : DW P ⟨fn.ntmps, true⟩ c0 (fnQ rs L.nx L.fx K) ⟨argsD 0 args, ⟨L.nx + 3, L.nx, L.m⟩⟩) : DCalls P f args L (fun d L' ks => K d L' ks ∧ d.kill (geN L.nx) = d) := by
  refine ⟨⟨fn, hf, by rw [hb]; rfl⟩, fun h η G vs B O hp => ?_⟩
  let E : Env := ⟨h, η, fun b => ∃ j l, lkO L.m j = some l ∧ η j b, G, [], []⟩
  have hgd : ∀ b, G b → E.gd b := fun b hb => .inr hb
  have S0 : Stays h h (Fz G η L.m) (Fz E.gd η L.m) := fun b hb hF => ⟨hb, ⟨hgd b hF.1, hF.2⟩, rfl⟩
  have hp' : PV h (Fz E.gd η L.m) η args vs := ⟨hp.1, fun i d x hd hx => (hp.2 i d x hd hx).mono S0 .refl⟩
  have O' := O.mono hgd
  have HS0 : HS E η ⟨L.nx + 3, L.nx, L.m⟩ h := by
    refine ⟨⟨fun j l hj => (O'.loc j l hj).imp id fun ⟨a, b, c⟩ => ⟨a, by show j < L.nx + 3; omega, c⟩, fun j b hη => ⟨by have := (O'.lt j b hη).1; show j < L.nx + 3; omega, (O'.lt j b hη).2⟩, O'.fn, O'.inj⟩, B.gone, Nat.le_refl _, fun _ _ _ => rfl, fun j l b hj hη => .inr ⟨⟨j, l, hj, hη⟩, .inl (O'.lt j b hη).1⟩, fun j b _ hη => ⟨hη, rfl, rfl⟩, fun j b hη => (O'.lt j b hη).1, ⟨Nat.le_add_right _ _, fun _ _ _ hη => hη⟩, fun _ _ hη => .inr (.inr hη)⟩
  have R : RS E η ⟨argsD 0 args, ⟨L.nx + 3, L.nx, L.m⟩⟩ ⟨argsPT 0 vs, h, []⟩ := by
    refine ⟨?_, HS0, ⟨fun b hb => (by cases hb), List.nodup_nil⟩, fun i v hv => ?_, fun i v hv => by cases hv⟩
    · show Slots (argsPT 0 vs ++ []) _ _ _ _
      rw [List.append_nil]; exact argsD_look args vs 0 hp'
    · have h1 := (argsPT_look vs 0 i v hv).2
      have h2 := (List.getElem?_eq_some_iff.1 h1).1
      have h3 := hp.1
      omega
  refine ACalls.of_bodyL hf hb (by rw [← hp.1]; exact hn) fun N => ?_
  refine (H E η _ N B R).mono fun e s' ⟨η', ds', q, r⟩ => ?_
  have fin : ∀ s : AS, RS E η' ds' s → dress ds'.t ds'.L.m rs (fun l => sidesP (frzV L.nx ds'.L.m (finDV l)).1 (K ((frzV L.nx ds'.L.m (finDV l)).2.kill (geN L.nx)) ⟨L.nx, L.fx, cutO L.nx ds'.L.m⟩ [])) → ds'.L.fx = L.nx →
      Left s.h s.d ∧ ∃ v, presults P fn ⟨s.t, killA s.h s.d, []⟩ = some v ∧ ∃ d L' ks η', (K d L' ks ∧ d.kill (geN L.nx) = d) ∧ L'.fx = L.fx ∧ HS E η' ⟨L'.nx, L.nx, L'.m⟩ (killA s.h s.d) ∧ RdV (killA s.h s.d) (Fz E.gd η' L'.m) η' d v ∧ Keeps h (killA s.h s.d) η η' (memN ks) := by
    intro s R hd hfx
    obtain ⟨hleft, R⟩ := R.unwind
    obtain ⟨ds, ws, hk, hm, hpv⟩ := dress_sound R rs _ _ hres hd
    obtain ⟨hsides, hK⟩ := sidesP_sound hk
    have hv : ∃ v, presults P fn ⟨s.t, killA s.h s.d, []⟩ = some v ∧ RdV (killA s.h s.d) (Fz E.gd η' ds'.L.m) η' (finDV ds) v := by
      unfold presults
      rw [hm]
      match ds, ws, hpv with
      | [], [], hpv => exact ⟨_, rfl, .tup rfl fun i d x hd hx => by simp at hd⟩
      | [d], [v], hpv => exact ⟨v, rfl, hpv.2 0 d v rfl rfl⟩
      | d :: d2 :: l, v :: v2 :: vs, hpv => exact ⟨_, rfl, .tup (by have := hpv.1; simpa using this) fun i d x hd hx => hpv.2 i d x hd (by simpa using hx)⟩
      | [], _ :: _, hpv => have := hpv.1; simp at this
      | _ :: _, [], hpv => have := hpv.1; simp at this
      | [_], _ :: _ :: _, hpv => have := hpv.1; simp at this
      | _ :: _ :: _, [_], hpv => have := hpv.1; simp at this
    obtain ⟨v, h1, h2⟩ := hv
    have h3 := frz_all R.hs hfx h2 hsides
    obtain ⟨H', M⟩ := R.hs.cut' (L' := ⟨L.nx, L.nx, cutO L.nx ds'.L.m⟩) hfx.symm (Nat.le_refl _) (fun j l hj => lkO_cutO _ j l hj)
    refine ⟨hleft, v, h1, _, _, _, _, ⟨hK, kill_kill _ _ (fun _ h => h) _⟩, rfl, H', h3, fun j b _ hη => ?_⟩
    exact H'.fix j b (O.lt j b hη).1 hη
  cases e with
  | normal =>
    simp only [fnQ] at q
    cases hb : Nat.beq ds'.L.fx L.nx with
    | false => simp only [hb, cond_false] at q
    | true =>
      simp only [hb, cond_true] at q
      exact fin s' r q (Nat.eq_of_beq_eq_true hb)
  | ret =>
    simp only [fnQ] at q
    cases hb : Nat.beq ds'.L.fx L.nx with
    | false => simp only [hb, cond_false] at q
    | true =>
      simp only [hb, cond_true] at q
      exact fin s' r q (Nat.eq_of_beq_eq_true hb)
  | exit id => exact q.elim
  | goto l => exact q.elim


end Go.Am

