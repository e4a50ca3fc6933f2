/-
  The data layer: code.
-/
import Derived.Test.YtpchlfmlolkeeaaD17
set_option linter.unusedSimpArgs false
set_option linter.unusedVariables false
namespace Go.Am
open Go Go.RowKit

/-- How many temporaries, and is it known that the frame is not one of a round? -/
structure NN where
  n : Nat
  rr : Bool

variable {P : Program} {o : Oper} {st : PT} {h : AHeap} {G F : Nat → Prop} {η : Nat → Nat → Prop} {t : DT} {L : Own} {side : Option Prop} {d : DV} {E : Env} {n : NN} {C : CO}

/-- Which operations of a region turn memory. -/
def effs : List DIt → List Bool
  | [] => []
  | .gh _ :: r => effs r
  | .pu _ :: r => false :: effs r
  | _ :: r => true :: effs r

def noCalls : List DIt → Bool
  | [] => true
  | .ca _ :: _ => false
  | _ :: r => noCalls r

def heapyOf (l : List DIt) (k : Nat) : Bool := (effs l).getD k false

/-! Where an operation may stand elsewhere. -/

theorem pureOp_any {t : PT} {h h' : AHeap} {v : Value} (hp : pureOp o = true) (H : OpS P o t h v) : OpS P o t h' v := by
  refine ⟨H.1, H.2.1, ?_⟩
  have := H.2.2
  unfold apure at this ⊢
  unfold pureOp at hp
  split at hp <;> rename_i heq <;> simp only [heq] at this ⊢ <;> try exact this
  · cases hp

/-- A read says the same where the block stays. -/
theorem load_any {t : PT} {h h' : AHeap} {v : Value} {ty i : Nat} (ho : o.op = .load ty (.tmp i)) (H : OpS P o t h v) (hb : ∀ b x, look? t i = some (.pointer (some ⟨b, x, none⟩)) → h'.get b = h.get b) : OpS P o t h' v := by
  refine ⟨H.1, H.2.1, ?_⟩
  have := H.2.2
  unfold apure at this ⊢
  simp only [ho] at this ⊢
  unfold aload at this ⊢
  split at this
  · rename_i b x heq
    have hl : look? t i = some (.pointer (some ⟨b, x, none⟩)) := by
      unfold pev at heq
      cases hq : look? t i with
      | none => simp [hq, undef] at heq
      | some y => simp only [hq, Option.getD_some] at heq; rw [heq]
    have e := hb b x hl
    simp only [areadN, aread, e] at this ⊢
    exact this
  · cases this

theorem drop_get {α : Type} {l rest : List α} {o : α} {k : Nat} (h : l.drop k = o :: rest) : l[k]? = some o := by
  have := congrArg (fun x => x[0]?) h
  simpa using this
theorem drop_more {α : Type} {l rest : List α} {o : α} {k : Nat} (h : l.drop k = o :: rest) : l.drop (k + 1) = rest := by
  have := congrArg List.tail h
  simpa using this

def storeQ (o : Oper) : Option Nat :=
  match o.op with
  | .store _ (.tmp q) _ => some q
  | _ => none
theorem storeQ_spec {q : Nat} (h : storeQ o = some q) : ∃ ty x, o.op = .store ty (.tmp q) x := by
  unfold storeQ at h
  split at h
  · rename_i ty q' x heq; cases h; exact ⟨ty, x, heq⟩
  · cases h

/-- A slot that is not written from an operation on. -/
def keepS (ops : Array Oper) (k i : Nat) : Bool := (List.range ops.size).all fun j => Nat.blt j k || (match ops.toList[j]? with | some o => o.dst != some i | none => true)

def exWr (ops : Array Oper) (heapy : Nat → Bool) (ps : List (Nat × Nat)) (k m i h : Nat) : Bool :=
  !heapy h || (Nat.blt h k == Nat.blt h m) || (match ops.toList[h]? with | some o => (match storeQ o with | some q => ps.contains (i, q) && keepS ops h q | none => false) | none => true)

def exLd (ops : Array Oper) (heapy : Nat → Bool) (ps : List (Nat × Nat)) (k m : Nat) (o : Oper) : Bool :=
  match o.op with
  | .load _ (.tmp i) => keepS ops k i && (List.range ops.size).all (exWr ops heapy ps k m i)
  | _ => false

/-- Where an operation may stand elsewhere, its outcome does not hang on memory, or it reads a block that is not written in between. -/
def exOk (ops : Array Oper) (heapy : Nat → Bool) (ps : List (Nat × Nat)) (ex : List (Nat × Nat)) : Bool :=
  ex.all fun x => !heapy x.1 && Nat.ble x.2 ops.size && (match ops.toList[x.1]? with | some o => pureOp o || exLd ops heapy ps x.1 x.2 o | none => true)

/-- What was done so far. -/
structure TrQ (P : Program) (all : Array Oper) (heapy : Nat → Bool) (sv : PT) (k : Nat) (s : AS) (tr : List (PT × Value × Bool)) (hs : List AHeap) : Prop where
  l1 : tr.length = k
  l2 : hs.length = k
  pu : ∀ j o t v h, all.toList[j]? = some o → tr.reverse[j]? = some (t, v, true) → (s.h :: hs).reverse[j]? = some h → heapy j = false → (pureOp o || isLoad o) = true → okO o = true ∧ OpS P o (t ++ sv) h v
  wr : ∀ j o t v w h h1, all.toList[j]? = some o → tr.reverse[j]? = some (t, v, w) → (s.h :: hs).reverse[j]? = some h → (s.h :: hs).reverse[j + 1]? = some h1 → (w = true → heapy j = true → (storeQ o).isSome = true) →
    ∀ c, (w = true → heapy j = true → ∀ q b i, storeQ o = some q → look? (t ++ sv) q = some (.pointer (some ⟨b, i, none⟩)) → c ≠ b) → h1.get c = h.get c
  sl : ∀ j t v w i, tr.reverse[j]? = some (t, v, w) → (∀ j' o', j ≤ j' → j' < k → all.toList[j']? = some o' → o'.dst ≠ some i) → look? (t ++ sv) i = look? (s.t ++ sv) i

theorem rev_get {α : Type} {x : α} {l : List α} {j : Nat} (h : j < l.length) : (x :: l).reverse[j]? = l.reverse[j]? := by
  rw [List.reverse_cons, List.getElem?_append_left (by simpa using h)]
theorem rev_last {α : Type} {x : α} {l : List α} : (x :: l).reverse[l.length]? = some x := by
  rw [List.reverse_cons, List.getElem?_append_right (by simp)]; simp

theorem TrQ.step {all : Array Oper} {heapy : Nat → Bool} {sv : PT} {k : Nat} {s : AS} {tr : List (PT × Value × Bool)} {hs : List AHeap} {v : Value} {w : Bool} {h' : AHeap} {d : List Nat} (H : TrQ P all heapy sv k s tr hs) (ho : all.toList[k]? = some o)
    (hpu : w = true → heapy k = false → (pureOp o || isLoad o) = true → okO o = true ∧ OpS P o (s.t ++ sv) s.h v)
    (hwr : (w = true → heapy k = true → (storeQ o).isSome = true) → ∀ c, (w = true → heapy k = true → ∀ q b i, storeQ o = some q → look? (s.t ++ sv) q = some (.pointer (some ⟨b, i, none⟩)) → c ≠ b) → h'.get c = s.h.get c) :
    TrQ P all heapy sv (k + 1) ⟨upd s.t o.dst v, h', d⟩ ((s.t, v, w) :: tr) (s.h :: hs) := by
  have l1 := H.l1
  have l2 := H.l2
  have last : ∀ {j : Nat} {x : PT × Value × Bool}, ((s.t, v, w) :: tr).reverse[j]? = some x → j < k ∨ (j = k ∧ x = (s.t, v, w)) := by
    intro j x h
    rcases Nat.lt_trichotomy j k with q | q | q
    · exact .inl q
    · subst q
      have := rev_last (x := (s.t, v, w)) (l := tr)
      rw [l1] at this
      rw [this] at h
      cases h
      exact .inr ⟨rfl, rfl⟩
    · rw [List.getElem?_eq_none (by simp; omega)] at h; cases h
  have hsk : (s.h :: hs).reverse[k]? = some s.h := by have := rev_last (x := s.h) (l := hs); rwa [l2] at this
  refine ⟨by simp [l1], by simp [l2], fun j o' t' v' h0 hj ht hh hq hp => ?_, fun j o' t' v' w' h0 h1 hj ht hh hh1 hc c hcc => ?_, fun j t' v' w' i ht hd => ?_⟩
  · rcases last ht with q | ⟨rfl, e⟩
    · rw [rev_get (by omega)] at ht
      rw [rev_get (by simp; omega)] at hh
      exact H.pu j o' t' v' h0 hj ht hh hq hp
    · cases e
      rw [ho] at hj
      cases hj
      rw [rev_get (by simp; omega), hsk] at hh
      cases hh
      exact hpu rfl hq hp
  · rcases last ht with q | ⟨rfl, e⟩
    · rw [rev_get (by omega)] at ht
      rw [rev_get (by simp; omega)] at hh
      rw [rev_get (by simp; omega)] at hh1
      exact H.wr j o' t' v' w' h0 h1 hj ht hh hh1 hc c hcc
    · cases e
      rw [ho] at hj
      cases hj
      rw [rev_get (by simp; omega), hsk] at hh
      have := rev_last (x := h') (l := s.h :: hs)
      rw [List.length_cons, l2] at this
      rw [this] at hh1
      cases hh
      cases hh1
      exact hwr hc c hcc
  · have stp : (o.dst ≠ some i) → look? (upd s.t o.dst v ++ sv) i = look? (s.t ++ sv) i := by
      intro hne
      rw [look_append, look_append]
      congr 1
      cases he : (o.dst : Option Nat) with
      | none => rfl
      | some x =>
        have : ¬ i = x := fun e => hne (by rw [he, e])
        simp only [upd, look?]
        rw [beq_no this]
        rfl
    have hk := hd k o
    rcases last ht with q | ⟨rfl, e⟩
    · rw [rev_get (by omega)] at ht
      have := H.sl j t' v' w' i ht fun j' o' h1 h2 h3 => hd j' o' h1 (by omega) h3
      rw [this]
      exact (stp (hk (by omega) (by omega) ho)).symm
    · cases e
      exact (stp (hk (Nat.le_refl _) (by omega) ho)).symm

/-- The slots tell blocks that are different. -/
def DiffS (ps : List (Nat × Nat)) (t : PT) : Prop := ∀ i q, (i, q) ∈ ps → ∀ b x b' x', look? t i = some (.pointer (some ⟨b, x, none⟩)) → look? t q = some (.pointer (some ⟨b', x', none⟩)) → b ≠ b'

theorem keepS_spec {ops : Array Oper} {k i : Nat} (h : keepS ops k i = true) : ∀ j o, k ≤ j → ops.toList[j]? = some o → o.dst ≠ some i := by
  intro j o hj ho
  unfold keepS at h
  have hlt : j < ops.size := by have := (List.getElem?_eq_some_iff.1 ho).1; simpa using this
  have := List.all_eq_true.1 h j (List.mem_range.2 hlt)
  rw [ho] at this
  have hnb : Nat.blt j k = false := by cases hb : Nat.blt j k with | false => rfl | true => (rw [Nat.blt_eq] at hb; omega)
  rw [hnb] at this
  simpa using this

theorem TrQ.extra {all : Array Oper} {heapy : Nat → Bool} {sv : PT} {s : AS} {tr : List (PT × Value × Bool)} {hs : List AHeap} {ps : List (Nat × Nat)} (H : TrQ P all heapy sv all.size s tr hs) (hD : DiffS ps (s.t ++ sv)) (hsv : ∀ i v, look? sv i = some v → FB ≤ i) :
    ∀ {ex : List (Nat × Nat)}, exOk all heapy ps ex = true → Extra P all tr.reverse (s.h :: hs).reverse ex
  | [], _ => trivial
  | (a, m) :: ex, he => by
    unfold exOk at he
    simp only [List.all_cons, Bool.and_eq_true, Bool.not_eq_true'] at he
    refine ⟨?_, TrQ.extra H hD hsv (by unfold exOk; exact he.2)⟩
    split
    · rename_i o t v h h1 h2 h3
      have hp := he.1.2
      have hm := Nat.le_of_ble_eq_true he.1.1.2
      rw [h1] at hp
      simp only [Bool.or_eq_true] at hp
      have hal : a < all.size := by have := (List.getElem?_eq_some_iff.1 h1).1; simpa using this
      obtain ⟨ha, hha⟩ : ∃ h, (s.h :: hs).reverse[a]? = some h := ⟨_, List.getElem?_eq_getElem (by have := H.l2; simp; omega)⟩
      rcases hp with hp | hp
      · obtain ⟨g2, g3⟩ := H.pu a o t v ha h1 h2 hha he.1.1.1 (by rw [hp]; rfl)
        have g4 := pureOp_any (h' := h) hp g3
        exact OpK.drop hsv g2 (OpX.pure g4.1 g4.2.1 g4.2.2)
      · unfold exLd at hp
        split at hp
        · rename_i ty i hop
          simp only [Bool.and_eq_true] at hp
          obtain ⟨g2, g3⟩ := H.pu a o t v ha h1 h2 hha he.1.1.1 (by simp [isLoad, hop])
          have hki := keepS_spec hp.1
          have hsi := H.sl a t v true i h2 fun j' o' q1 _ q3 => hki j' o' q1 q3
          -- no block that is read is written between
          have stp : ∀ b x, look? (t ++ sv) i = some (.pointer (some ⟨b, x, none⟩)) → ∀ j, (Nat.blt j a != Nat.blt j m) = true → j < all.size → ∀ g g1, (s.h :: hs).reverse[j]? = some g → (s.h :: hs).reverse[j + 1]? = some g1 → g1.get b = g.get b := by
            intro b x hb j hj hjl g g1 hg hg1
            have hoj : all.toList[j]? = some (all.toList[j]'(by simpa using hjl)) := List.getElem?_eq_getElem _
            obtain ⟨⟨tj, vj, wj⟩, htj⟩ : ∃ y, tr.reverse[j]? = some y := ⟨_, List.getElem?_eq_getElem (by have := H.l1; simp; omega)⟩
            have hex := List.all_eq_true.1 hp.2 j (List.mem_range.2 hjl)
            unfold exWr at hex
            rw [hoj] at hex
            simp only [bne_iff_ne, ne_eq] at hj
            have hj' : (Nat.blt j a == Nat.blt j m) = false := by simpa using hj
            rw [hj'] at hex
            refine H.wr j _ tj vj wj g g1 hoj htj hg hg1 (fun _ hh => ?_) b (fun _ hh q b' x' hq hl => ?_)
            · rw [hh] at hex
              simp only [Bool.not_true, Bool.or_self, Bool.false_or] at hex
              split at hex
              · rename_i heq; rw [heq]; rfl
              · cases hex
            · rw [hh] at hex
              simp only [Bool.not_true, Bool.or_self, Bool.false_or, hq, Bool.and_eq_true, List.contains_iff_mem] at hex
              have hkq := keepS_spec hex.2
              have hsq := H.sl j tj vj wj q htj fun j' o' q1 _ q3 => hkq j' o' q1 q3
              exact hD i q hex.1 b x b' x' (by rw [← hsi]; exact hb) (by rw [← hsq]; exact hl)
          have chain : ∀ b x, look? (t ++ sv) i = some (.pointer (some ⟨b, x, none⟩)) → ∀ lo n, lo + n ≤ all.size → (∀ j, lo ≤ j → j < lo + n → (Nat.blt j a != Nat.blt j m) = true) → ∀ g g1, (s.h :: hs).reverse[lo]? = some g → (s.h :: hs).reverse[lo + n]? = some g1 → g1.get b = g.get b := by
            intro b x hb lo n
            induction n with
            | zero => intro _ _ g g1 hg hg1; rw [Nat.add_zero, hg] at hg1; cases hg1; rfl
            | succ n ih =>
              intro hle hbt g g1 hg hg1
              obtain ⟨g0, hg0⟩ : ∃ g0, (s.h :: hs).reverse[lo + n]? = some g0 := ⟨_, List.getElem?_eq_getElem (by have := H.l2; simp; omega)⟩
              rw [← ih (by omega) (fun j q1 q2 => hbt j q1 (by omega)) g g0 hg hg0]
              exact stp b x hb (lo + n) (hbt _ (by omega) (by omega)) (by omega) g0 g1 hg0 hg1
          have same : ∀ b x, look? (t ++ sv) i = some (.pointer (some ⟨b, x, none⟩)) → h.get b = ha.get b := by
            intro b x hb
            have bl : ∀ j c : Nat, Nat.blt j c = decide (j < c) := fun j c => by
              cases hq : Nat.blt j c with
              | true => rw [Nat.blt_eq] at hq; exact (decide_eq_true hq).symm
              | false => exact (decide_eq_false (fun q => by rw [show Nat.blt j c = true from by rw [Nat.blt_eq]; exact q] at hq; cases hq)).symm
            rcases Nat.le_total a m with q | q
            · refine chain b x hb a (m - a) (by omega) (fun j q1 q2 => ?_) ha h hha (by rw [show a + (m - a) = m by omega]; exact h3)
              rw [bl, bl, decide_eq_false (by omega), decide_eq_true (by omega)]; rfl
            · refine (chain b x hb m (a - m) (by omega) (fun j q1 q2 => ?_) h ha h3 (by rw [show m + (a - m) = a by omega]; exact hha)).symm
              rw [bl, bl, decide_eq_true (by omega), decide_eq_false (by omega)]; rfl
          have g4 := load_any (h' := h) hop g3 same
          exact OpK.drop hsv g2 (OpX.pure g4.1 g4.2.1 g4.2.2)
        · cases hp
    · trivial

/-! The steps of a proof that stand last. -/

def allGh : List DIt → Bool
  | [] => true
  | .gh _ :: r => allGh r
  | _ => false
def exsOf : List DIt → List (Nat × Nat)
  | [] => []
  | .gh (.exs ps) :: r => bif allGh r then ps ++ exsOf r else exsOf r
  | _ :: r => exsOf r

theorem diffP_sound {s : AS} (R : RS E η ⟨t, L⟩ s) {i q : Nat} (h : diffP (lk t i) (lk t q) = true) : ∀ b x b' x', look? (s.t ++ E.sv) i = some (.pointer (some ⟨b, x, none⟩)) → look? (s.t ++ E.sv) q = some (.pointer (some ⟨b', x', none⟩)) → b ≠ b' := by
  intro b x b' x' h1 h2
  have nm : ∀ i d b x, lk t i = some d → look? (s.t ++ E.sv) i = some (.pointer (some ⟨b, x, none⟩)) → ∀ j, ((∃ o, d = .bptr j o) ∨ ∃ e k o, d = .aptr j e k o) → η j b := by
    intro i d b x hd hl j hj
    obtain ⟨v, g1, g2⟩ := R.slots i d hd
    rw [hl] at g1
    cases g1
    rcases hj with ⟨o, rfl⟩ | ⟨e, k, o, rfl⟩
    · cases g2 with | bptr _ h0 => exact h0
    · generalize hx : (Value.pointer (some ⟨b, x, none⟩)) = y at g2
      cases g2 with | aptr _ _ _ h0 => cases hx; exact h0
  have fin : ∀ j j', η j b → η j' b' → Nat.beq j j' = false → b ≠ b' := fun j j' g1 g2 hn e => by
    subst e
    have := R.hs.own.inj j j' b g1 g2
    subst this
    simp at hn
  cases hi : lk t i with
  | none => rw [hi] at h; unfold diffP at h; split at h <;> simp_all
  | some d =>
    cases hq : lk t q with
    | none => rw [hi, hq] at h; unfold diffP at h; split at h <;> simp_all
    | some d' =>
      rw [hi, hq] at h
      unfold diffP at h
      split at h <;> try simp only [Bool.not_eq_true'] at h
      · rename_i e1 e2; cases e1; cases e2; exact fin _ _ (nm i _ b x hi h1 _ (.inl ⟨_, rfl⟩)) (nm q _ b' x' hq h2 _ (.inl ⟨_, rfl⟩)) h
      · rename_i e1 e2; cases e1; cases e2; exact fin _ _ (nm i _ b x hi h1 _ (.inl ⟨_, rfl⟩)) (nm q _ b' x' hq h2 _ (.inr ⟨_, _, _, rfl⟩)) h
      · rename_i e1 e2; cases e1; cases e2; exact fin _ _ (nm i _ b x hi h1 _ (.inr ⟨_, _, _, rfl⟩)) (nm q _ b' x' hq h2 _ (.inl ⟨_, rfl⟩)) h
      · rename_i e1 e2; cases e1; cases e2; exact fin _ _ (nm i _ b x hi h1 _ (.inr ⟨_, _, _, rfl⟩)) (nm q _ b' x' hq h2 _ (.inr ⟨_, _, _, rfl⟩)) h
      · cases h

theorem ghosts_sound {K : DT → Own → Prop} {s : AS} : ∀ (l : List DIt) (t : DT) (L : Own), allGh l = true → dops P C l t L K → RS E η ⟨t, L⟩ s → (∃ t' L', K t' L' ∧ RS E η ⟨t', L'⟩ s) ∧ DiffS (exsOf l) (s.t ++ E.sv)
  | [], t, L, _, hd, R => ⟨⟨t, L, hd, R⟩, fun i q h => by cases h⟩
  | .gh g :: r, t, L, ha, hd, R => by
    simp only [dops] at hd
    obtain ⟨t', L', hK, R'⟩ := dghost_sound hd R
    obtain ⟨h1, h2⟩ := ghosts_sound r t' L' ha hK R'
    refine ⟨h1, ?_⟩
    cases g with
    | exs ps =>
      have ha' : allGh r = true := ha
      simp only [exsOf, ha', cond_true]
      unfold dghost at hd
      cases hb : exsB t ps with
      | false => simp only [hb, cond_false] at hd
      | true =>
        intro i q hm
        rcases List.mem_append.1 hm with hm | hm
        · exact diffP_sound R (List.all_eq_true.1 hb _ hm)
        · exact h2 i q hm
    | _ => exact h2
  | .pu _ :: _, _, _, ha, _, _ => by cases ha
  | .ef _ :: _, _, _, ha, _, _ => by cases ha
  | .ca _ :: _, _, _, ha, _, _ => by cases ha

theorem resIts_gh {all : Array Oper} : ∀ {l : List DIt}, resIts P all [] l = true → allGh l = true
  | [], _ => rfl
  | .gh _ :: r, h => resIts_gh (l := r) (by simpa [resIts] using h)
  | .pu _ :: _, h => by simp [resIts] at h
  | .ef _ :: _, h => by simp [resIts] at h
  | .ca _ :: _, h => by simp [resIts] at h

theorem resIts_ngh {all : Array Oper} {o : Oper} {rest : List Oper} : ∀ {l : List DIt}, resIts P all (o :: rest) l = true → allGh l = false
  | [], h => by simp [resIts] at h
  | .gh _ :: r, h => resIts_ngh (l := r) (by simpa [resIts] using h)
  | .pu _ :: _, _ => rfl
  | .ef _ :: _, _ => rfl
  | .ca _ :: _, _ => rfl

/-- The operations of a region that draws its order. -/
theorem dops_draw_sound {all : Array Oper} {heapy : Nat → Bool} {K : DT → Own → Prop} {ex : List (Nat × Nat)} : ∀ (l : List DIt) (rest : List Oper) (k : Nat) (t : DT) (L : Own) (η : Nat → Nat → Prop) (s : AS) (tr : List (PT × Value × Bool)) (hs : List AHeap), exOk all heapy (exsOf l) ex = true →
    noCalls l = true → (∀ i, (effs l).getD i false = heapy (k + i)) → resIts P all rest l = true → dops P C l t L K → RS E η ⟨t, L⟩ s → all.toList.drop k = rest → k ≤ all.size → TrQ P all heapy E.sv k s tr hs →
    ADr P all heapy ex (fun s' => ∃ η' t' L', K t' L' ∧ RS E η' ⟨t', L'⟩ s') rest k s tr hs := by
  intro l
  induction l with
  | nil =>
    intro rest k t L η s tr hs hex hn hh hr hd R hl hk hT
    cases rest with
    | nil =>
      have hks : k = all.size := by have := List.drop_eq_nil_iff.1 hl; simp at this; omega
      subst hks
      exact ⟨hT.extra (fun i q h => by cases h) R.sv hex, η, t, L, hd, R⟩
    | cons _ _ => simp [resIts] at hr
  | cons x l ih =>
    intro rest k t L η s tr hs hex hn hh hr hd R hl hk hT
    cases x with
    | gh g =>
      cases rest with
      | nil =>
        have hks : k = all.size := by have := List.drop_eq_nil_iff.1 hl; simp at this; omega
        subst hks
        obtain ⟨⟨t', L', hK, R'⟩, hD⟩ := ghosts_sound (.gh g :: l) t L (resIts_gh hr) hd R
        exact ⟨hT.extra hD R.sv hex, η, t', L', hK, R'⟩
      | cons o rest =>
        have hr' : resIts P all (o :: rest) l = true := by simpa [resIts] using hr
        obtain ⟨t', L', hK, R'⟩ := dghost_sound hd R
        have hex' : exOk all heapy (exsOf l) ex = true := by
          cases g with
          | exs ps =>
            have := resIts_ngh hr'
            simp only [exsOf, this, cond_false] at hex
            exact hex
          | _ => exact hex
        exact ih _ k t' L' η s tr hs hex' hn hh hr' hK R' hl hk hT
    | ca x => simp [noCalls] at hn
    | pu x =>
      cases rest with
      | nil => simp [resIts] at hr
      | cons o rest =>
        have hh' : ∀ i, (effs l).getD i false = heapy (k + 1 + i) := fun i => by
          have := hh (i + 1)
          simpa [effs, Nat.add_assoc, Nat.add_comm 1 i] using this
        have hk0 : heapy k = false := by have := hh 0; simpa [effs] using this.symm
        have hkl : k + 1 ≤ all.size := by have := (List.getElem?_eq_some_iff.1 (drop_get hl)).1; simp at this; omega
        simp only [resIts, Bool.and_eq_true, beq_iff_eq] at hr
        obtain ⟨⟨⟨⟨⟨r1, r0⟩, r2⟩, r3⟩, r4⟩, r5⟩ := hr
        have rd : ∀ i, x.dst = some i → i < FB := fun i hi => okO_dst r0 i (by rw [r2]; exact hi)
        simp only [dops] at hd
        split at hd
        · rename_i hw
          have hd := factP_sound R.slots r4 hd
          split at hd
          · rename_i side d hp
            obtain ⟨hs', hd⟩ := sideP_sound hd
            obtain ⟨v, hop, hv⟩ := dpure_sound r4 r1 R.slots R.hs.own hp hs'
            have key : ∃ d', dops P C l (putD t x.dst d') L K ∧ RdV s.h (Fz E.gd η L.m) η d' v := by
              cases hsp : x.spl with
              | true => rw [hsp] at hd; exact splitD_sound hv hd
              | false => rw [hsp] at hd; exact ⟨d, hd, hv⟩
            obtain ⟨d', hd', hv'⟩ := key
            have R' := R.pure (dst := x.dst) rd hv'
            rw [← r2] at R' hd'
            exact .inl ⟨wantD_sound R r3 hw, v, s.h, OpK.drop R.sv r0 hop.toX, fun _ => rfl, ih rest _ _ L η _ _ _ hex hn hh' r5 hd' R' (drop_more hl) hkl (hT.step (drop_get hl) (fun _ _ hq => ⟨r0, hop.p hq⟩) fun _ _ _ => rfl)⟩
          · exact hd.elim
        · rename_i hw
          have R' := R.pure (dst := x.dst) rd (v := undef) (d := .und) .und
          rw [← r2] at R' hd
          exact .inr ⟨wantD_sound R r3 hw, ih rest _ _ L η _ _ _ hex hn hh' r5 hd R' (drop_more hl) hkl (hT.step (drop_get hl) (fun q _ _ => (by cases q)) fun _ _ _ => rfl)⟩
        · exact hd.elim
    | ef x =>
      cases rest with
      | nil => simp [resIts] at hr
      | cons o rest =>
        have hh' : ∀ i, (effs l).getD i false = heapy (k + 1 + i) := fun i => by
          have := hh (i + 1)
          simpa [effs, Nat.add_assoc, Nat.add_comm 1 i] using this
        have hk0 : heapy k = true := by have := hh 0; simpa [effs] using this.symm
        have hkl : k + 1 ≤ all.size := by have := (List.getElem?_eq_some_iff.1 (drop_get hl)).1; simp at this; omega
        simp only [resIts, Bool.and_eq_true, beq_iff_eq] at hr
        obtain ⟨⟨⟨⟨⟨r1, r0⟩, r2⟩, r3⟩, r4⟩, r5⟩ := hr
        have rd : ∀ i, x.dst = some i → i < FB := fun i hi => okO_dst r0 i (by rw [r2]; exact hi)
        simp only [dops] at hd
        split at hd
        · rename_i hw
          obtain ⟨v, h', hop, hE⟩ := deff_sound R.hs R.slots r4 r1 hd
          obtain ⟨d, L', ks, η', hK, R'⟩ := R.eff (dst := x.dst) rd hE
          rw [← r2] at R' hK
          refine .inl ⟨wantD_sound R r3 hw, v, h', OpK.drop R.sv r0 hop.x, fun q => (by rw [hk0] at q; cases q), ih rest _ _ L' η' _ _ _ hex hn hh' r5 hK R' (drop_more hl) hkl (hT.step (drop_get hl) (fun _ q _ => (by rw [hk0] at q; cases q)) fun hc c hcc => ?_)⟩
          have hc := hc rfl hk0
          rw [Option.isSome_iff_exists] at hc
          obtain ⟨q, hq⟩ := hc
          obtain ⟨ty, xx, hqo⟩ := storeQ_spec hq
          refine hop.keeps (by simp [calm, hqo]) (.inl ⟨ty, q, xx, hqo⟩) fun ty' q' x' b i he hl => ?_
          rw [hqo] at he
          cases he
          exact hcc rfl hk0 q b i hq hl
        · rename_i hw
          have R' := R.pure (dst := x.dst) rd (v := undef) (d := .und) .und
          rw [← r2] at R' hd
          exact .inr ⟨wantD_sound R r3 hw, ih rest _ _ L η _ _ _ hex hn hh' r5 hd R' (drop_more hl) hkl (hT.step (drop_get hl) (fun q _ _ => (by cases q)) fun _ _ _ => rfl)⟩
        · exact hd.elim

inductive DCode where
  | skip
  | reg (l : List DIt) (draw : Bool)
  | seq (a b : DCode)
  | cond (i : Nat) (a b : DCode)
  | block (id : Nat) (a : DCode)
  | loop (a : DCode)
  | exit (id : Nat)
  | ret
  | label (l : Nat)
  | gh (g : Ghost) (a : DCode)
  | scope (a : DCode)
  | rfn (x : Od) (ps : List Nat) (a b : DCode)

def resCode (P : Program) (n : Nat) : Code → DCode → Bool
  | c, .gh _ a => resCode P n c a
  | .skip, .skip => true
  | .region _ ops draw, .reg l dr => (draw == dr) && dstOk n ops && resIts P ops ops.toList l && (!draw || (noCalls l && regionOkL ops (heapyOf l) && exOk ops (heapyOf l) (exsOf l) (extras ops (heapyOf l))))
  | .seq a b, .seq c d => resCode P n a c && resCode P n b d
  | .cond (.tmp i) a b, .cond j c d => Nat.beq i j && Nat.blt j FB && resCode P n a c && resCode P n b d
  | .block i a, .block j c => Nat.beq i j && resCode P n a c
  | .loop a, .loop c => resCode P n a c
  | .exit i, .exit j => Nat.beq i j
  | .ret, .ret => true
  | .label i, .label j => Nat.beq i j
  | .scope a, .scope c => resCode P n a c
  | .rangeFunc (.tmp i) qs a b, .rfn (.t j) ps c d => Nat.beq i j && Nat.blt j FB && (qs.toList == ps) && (ps.all fun p => Nat.blt p n && Nat.blt p FB) && resCode P n a c && resCode P n b d
  | _, _ => false

abbrev QQ := AEx → DS → Prop

/-- A scope of labels to which nothing jumps. -/
theorem AW.scope {rr : Bool} {n0 n : Nat} {Q : AEx → AS → Prop} {s : AS} {c : Code} (H : AW rr P n0 n c (fun e s => (∀ l, e ≠ .goto l) ∧ Q e s) s) : AW rr P n0 n (.scope c) Q s := by
  intro ρ w0 w b a k cs hs hb
  obtain ⟨e, s1, ρ1, a1, w1, q1, g1, r1, h1⟩ := H ρ w0 w b a (.inScope c :: k) cs hs hb
  have st : step P (lone (b.atR a (.code (.scope c) :: k)) cs w) = .next (lone (b.atR a (.code c :: .inScope c :: k)) cs w) := step_lone_go (by simp [stepG, stepG.exec, Frame.atR])
  cases e with
  | normal =>
    have st' : ∀ a w, step P (lone (b.atR a (.inScope c :: k)) cs w) = .next (lone (b.atR a k) cs w) := fun a w => step_lone_go (by simp [stepG, stepG.exec, Frame.atR])
    exact ⟨.normal, s1, ρ1, a1, w1, q1.2, g1, r1, .head st (h1.trans (.one (st' _ _)))⟩
  | exit id' =>
    obtain ⟨k1, hk1, hst⟩ := h1
    exact ⟨.exit id', s1, ρ1, a1, w1, q1.2, g1, r1, k1, by rw [hk1]; rfl, .head st hst⟩
  | goto l => exact absurd rfl (q1.1 l)
  | ret =>
    obtain ⟨k1, hst⟩ := h1
    exact ⟨.ret, s1, ρ1, a1, w1, q1.2, g1, r1, k1, .head st hst⟩

/-- What is said of code: from a state, to where it goes. -/
def DW (P : Program) (n : NN) (c : Code) (Q : QQ) (ds : DS) : Prop :=
  ∀ (E : Env) (η : Nat → Nat → Prop) (s : AS) (N : Nat), Base P E.h → RS E η ds s → AW n.rr P N n.n c (fun e s' => ∃ η' ds', Q e ds' ∧ RS E η' ds' s') s

def DWc (P : Program) (n : NN) (c : DCode) (Q : QQ) (ds : DS) : Prop := ∀ c0, resCode P n.n c0 c = true → DW P n c0 Q ds

/-- What comes behind a loop is left as it stands while the code before it is opened. -/
@[congr] theorem DWc_congr {c : DCode} {Q : QQ} {s s' : DS} (h : s = s') : DWc P n c Q s = DWc P n c Q s' := by rw [h]
@[congr] theorem DI_congr {f : Nat} {args args' : List DV} {t t' : DT} {L L' : Own} {K : KT} (ha : args = args') (ht : t = t') (hl : L = L') : DI P f args t L K = DI P f args' t' L' K := by rw [ha, ht, hl]
@[congr] theorem DY_congr {j : Nat} {args args' : List DV} {t t' : DT} {L L' : Own} {K : KT} (ha : args = args') (ht : t = t') (hl : L = L') : DY P j args t L K = DY P j args' t' L' K := by rw [ha, ht, hl]

theorem DW.mono {c : Code} {Q Q' : QQ} {ds : DS} (H : DW P n c Q ds) (hq : ∀ e s, Q e s → Q' e s) : DW P n c Q' ds :=
  fun E η s N B R => (H E η s N B R).mono fun e s' ⟨η', ds', q, r⟩ => ⟨η', ds', hq e ds' q, r⟩

theorem DWc.mono {c : DCode} {Q Q' : QQ} {ds : DS} (H : DWc P n c Q ds) (hq : ∀ e s, Q e s → Q' e s) : DWc P n c Q' ds := fun c0 hr => (H c0 hr).mono hq

theorem DW.reg (Kp : POk P) (CK : COk P C) {l : List DIt} {dr : Bool} {c0 : Code} {Q : QQ} {ds : DS} (hr : resCode P n.n c0 (.reg l dr) = true) (hd : dops P C l ds.t ds.L fun t L => Q .normal ⟨t, L⟩) : DW P n c0 Q ds := by
  cases c0 <;> simp only [resCode, Bool.false_eq_true] at hr
  rename_i id ops draw
  simp only [Bool.and_eq_true, beq_iff_eq] at hr
  obtain ⟨⟨⟨rfl, r2⟩, r3⟩, r4⟩ := hr
  intro E η s N B R
  cases draw with
  | false =>
    refine AW.region r2 ?_
    have := dops_sound Kp CK B (n := n.n) (all := ops) l ops.toList ds.t ds.L η s r3 hd R
    have key : ∀ (rest : List Oper) (s : AS), AOps P n.n ops (fun s' => ∃ η' t' L', Q .normal ⟨t', L'⟩ ∧ RS E η' ⟨t', L'⟩ s') rest s → AOps P n.n ops (fun s' => ∃ η' ds', Q .normal ds' ∧ RS E η' ds' s') rest s := by
      intro rest
      induction rest with
      | nil => exact fun s ⟨η', t', L', q, r⟩ => ⟨η', _, q, r⟩
      | cons o rest ih =>
        intro s hA
        rcases hA with ⟨hw, hop⟩ | ⟨hw, hA⟩
        · exact .inl ⟨hw, OpK.mono hop fun v h' => ih _⟩
        · exact .inr ⟨hw, ih _ hA⟩
    exact key _ _ this
  | true =>
    simp only [Bool.not_true, Bool.false_or, Bool.and_eq_true] at r4
    obtain ⟨⟨q1, q2⟩, q3⟩ := r4
    have := dops_draw_sound (P := P) (C := C) (E := E) (all := ops) (heapy := heapyOf l) l ops.toList 0 ds.t ds.L η s [] [] q3 q1 (fun i => by rw [Nat.zero_add]; rfl) r3 hd R rfl (Nat.zero_le _) ⟨rfl, rfl, fun j o t v h _ q => (by simp at q), fun j o t v w h h1 _ q => (by simp at q), fun j t v w i q => (by simp at q)⟩
    refine AW.regionDraw Kp (heapyOf l) _ q2 rfl r2 ?_
    have key : ∀ (rest : List Oper) (k : Nat) (s : AS) (tr : List (PT × Value × Bool)) (hs : List AHeap), ADr P ops (heapyOf l) (extras ops (heapyOf l)) (fun s' => ∃ η' t' L', Q .normal ⟨t', L'⟩ ∧ RS E η' ⟨t', L'⟩ s') rest k s tr hs →
        ADr P ops (heapyOf l) (extras ops (heapyOf l)) (fun s' => ∃ η' ds', Q .normal ds' ∧ RS E η' ds' s') rest k s tr hs := by
      intro rest
      induction rest with
      | nil => exact fun k s tr hs ⟨a, η', t', L', q, r⟩ => ⟨a, η', _, q, r⟩
      | cons o rest ih =>
        intro k s tr hs hA
        rcases hA with ⟨hw, v, h', hop, hq, hA⟩ | ⟨hw, hA⟩
        · exact .inl ⟨hw, v, h', hop, hq, ih _ _ _ _ hA⟩
        · exact .inr ⟨hw, ih _ _ _ _ hA⟩
    exact key _ _ _ _ _ this

end Go.Am

