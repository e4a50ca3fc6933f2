/-
  The data layer: operations of a region, one behind the other.
-/
import Derived.Test.YtpchlfmlolkeeaaDlA
set_option linter.unusedSimpArgs false
set_option linter.unusedVariables false
namespace Go.Am
open Go Go.RowKit

variable {P : Program} {o : Oper} {st : PT} {h : AHeap} {G F : Nat → Prop} {η : Nat → Nat → Prop} {t : DT} {L : Own} {side : Option Prop} {d : DV} {E : Env}

structure DOper where
  dst : Option Nat
  op : DOp
  spl : Bool
  grd : Option (Nat × Bool)

/-- Steps of a proof between operations. -/
inductive Ghost where
  | frz (j : Nat)
  | own (i : Nat) (e : Ty)
  | ty (i : Nat) (e : Ty)
  | drop (j : Nat)
  | cap (i : Nat)
  | keep (is : List Nat)
  | mrg (g i m : Nat)
  | kp (m : Nat)
  | frzB (i : Nat) (t : Ty)
  | exs (ps : List (Nat × Nat))

/-- Pointers to blocks of one's own that have different names. -/
def diffP : Option DV → Option DV → Bool
  | some (.bptr j _), some (.bptr j' _) => !Nat.beq j j'
  | some (.bptr j _), some (.aptr j' _ _ _) => !Nat.beq j j'
  | some (.aptr j _ _ _), some (.bptr j' _) => !Nat.beq j j'
  | some (.aptr j _ _ _), some (.aptr j' _ _ _) => !Nat.beq j j'
  | _, _ => false
def exsB (t : DT) (ps : List (Nat × Nat)) : Bool := ps.all fun x => diffP (lk t x.1) (lk t x.2)

/-- Slots are forgotten: the bits of a number tell which ones. -/
def dropM (m : Nat) : DT → DT
  | [] => []
  | (i, d) :: t => bif (bif decide (FB ≤ i) then false else (m / 2 ^ i % 2 == 1)) then dropM m t else (i, d) :: dropM m t
def keepM (m : Nat) : DT → DT
  | [] => []
  | (i, d) :: t => bif (bif decide (FB ≤ i) then true else (m / 2 ^ i % 2 == 1)) then (i, d) :: keepM m t else keepM m t

inductive DIt where
  | pu (o : DOper)
  | ef (o : DOper)
  | ca (o : DOper)
  | gh (g : Ghost)

def killL (ks : List Nat) : DV → DV := DV.kill (memN ks)

def killT (ks : List Nat) (t : DT) : DT :=
  match ks with
  | [] => t
  | _ => t.map fun x => (x.1, DV.kill (memN ks) x.2)

def putD (t : DT) (dst : Option Nat) (d : DV) : DT :=
  match dst with
  | some i => (i, d) :: t
  | none => t

theorem Slots.put {st : PT} (S : Slots st h F η t) {dst : Option Nat} {v : Value} (hv : RdV h F η d v) : Slots (upd st dst v) h F η (putD t dst d) := by
  cases dst with
  | none => exact S
  | some j =>
    intro i d' hd
    simp only [putD, lk] at hd
    simp only [upd, look?]
    cases hb : Nat.beq i j with
    | true =>
      simp only [hb, cond_true, Option.some.injEq] at hd
      subst hd
      exact ⟨v, rfl, hv⟩
    | false =>
      simp only [hb, cond_false] at hd
      exact S i d' hd

theorem Slots.kill {st : PT} {h' : AHeap} {η' : Nat → Nat → Prop} {L' : Own} {ks : List Nat} (S : Slots st h (Fz G η L.m) η t) (M : Mv G η L h η' L' h' (memN ks)) : Slots st h' (Fz G η' L'.m) η' (killT ks t) := by
  intro i d hd
  unfold killT at hd
  split at hd
  · obtain ⟨v, h1, h2⟩ := S i d hd
    exact ⟨v, h1, h2.mono M.st M.kp⟩
  · rw [lk_map, Option.map_eq_some_iff] at hd
    obtain ⟨d0, h1, rfl⟩ := hd
    obtain ⟨v, h2, h3⟩ := S i d0 h1
    exact ⟨v, h2, h3.kill M.st M.kp⟩

theorem upd_lt {t : PT} {dst : Option Nat} {v : Value} (h : ∀ i x, look? t i = some x → i < FB) (hd : ∀ i, dst = some i → i < FB) : ∀ i x, look? (upd t dst v) i = some x → i < FB := by
  cases dst with
  | none => exact h
  | some j =>
    intro i x hx
    simp only [upd, look?] at hx
    cases hb : Nat.beq i j with
    | true => rw [Nat.eq_of_beq_eq_true hb]; exact hd j rfl
    | false => rw [hb] at hx; exact h i x hx

theorem RS.pure {s : AS} (R : RS E η ⟨t, L⟩ s) {dst : Option Nat} (hd : ∀ i, dst = some i → i < FB) {v : Value} (hv : RdV s.h (Fz E.gd η L.m) η d v) : RS E η ⟨putD t dst d, L⟩ ⟨upd s.t dst v, s.h, s.d⟩ :=
  ⟨by have := Slots.put R.slots hv (dst := dst); cases dst <;> exact this, R.hs, R.d, upd_lt R.lt hd, R.sv⟩

theorem RS.eff {s : AS} (R : RS E η ⟨t, L⟩ s) {dst : Option Nat} (hd : ∀ i, dst = some i → i < FB) {v : Value} {h' : AHeap} {K : KK} (hE : EffP E s.h η L K v h') :
    ∃ d L' ks η', K d L' ks ∧ RS E η' ⟨putD (killT ks t) dst d, L'⟩ ⟨upd s.t dst v, h', s.d⟩ := by
  obtain ⟨d, L', ks, η', hK, H', hv, M⟩ := hE
  refine ⟨d, L', ks, η', hK, ?_, H', R.d.mv M, upd_lt R.lt hd, R.sv⟩
  have := Slots.put (Slots.kill R.slots M) hv (dst := dst)
  cases dst <;> exact this

/-- The temporaries that an operation looks at, and the one that it sets, are the frame's. -/
def okO (o : Oper) : Bool := (o.op.operands.toList.all fun | .tmp i => Nat.blt i FB | _ => true) && (match o.dst with | some d => Nat.blt d FB | none => true)

theorem okO_dst {o : Oper} (h : okO o = true) : ∀ i, o.dst = some i → i < FB := by
  intro i hi
  unfold okO at h
  simp only [Bool.and_eq_true] at h
  rw [hi] at h
  simpa [Nat.blt_eq] using h.2

theorem OpK.drop {P : Program} {o : Oper} {t sv : PT} {h : AHeap} {K : Value → AHeap → Prop} (hsv : ∀ i v, look? sv i = some v → FB ≤ i) (ho : okO o = true) (H : OpK P o (t ++ sv) h K) : OpK P o t h K := by
  intro ρ w0 w a Hh HT
  refine H ρ w0 w a Hh fun i v hm hl => HT i v hm ?_
  rw [look_append] at hl
  cases h1 : look? t i with
  | some x => rw [h1] at hl; exact hl
  | none =>
    rw [h1] at hl
    have h2 := hsv i v hl
    unfold okO at ho
    simp only [Bool.and_eq_true] at ho
    have := List.all_eq_true.1 ho.1 _ hm
    simp only [Nat.blt_eq] at this
    omega

/-! Is an operation carried out? -/

def wantD (t : DT) : Option (Nat × Bool) → Option Bool
  | none => some true
  | some (i, w) => match lk t i with
    | some (.lit b) => some (b == w)
    | some .und => some false
    | _ => none

def grdOk (all : Array Oper) (o : Oper) (g : Option (Nat × Bool)) : Bool :=
  match o.guard, g with
  | none, none => true
  | some (j, w), some (i, w') => (w == w') && ((all.toList[j]?).bind (·.dst) == some i) && Nat.blt i FB
  | _, _ => false

theorem wantD_sound {all : Array Oper} {s : AS} (R : RS E η ⟨t, L⟩ s) {g : Option (Nat × Bool)} {b : Bool} (hg : grdOk all o g = true) (hw : wantD t g = some b) : pwanted all s.t o = some b := by
  unfold grdOk at hg
  unfold pwanted
  split at hg
  · rename_i h1
    rw [h1]
    simp only [wantD, Option.some.injEq] at hw
    rw [← hw]
  · rename_i j w i w' h1
    rw [h1]
    simp only [Bool.and_eq_true, beq_iff_eq] at hg
    obtain ⟨⟨rfl, h2⟩, hlt⟩ := hg
    have hlt : i < FB := by simpa [Nat.blt_eq] using hlt
    simp only [h2]
    simp only [wantD] at hw
    split at hw
    · rename_i b' hl
      obtain ⟨v, h3, h4⟩ := R.slots i _ hl
      have h3 := R.own hlt h3
      cases h4
      simp only [h3]
      exact hw
    · rename_i hl
      obtain ⟨v, h3, h4⟩ := R.slots i _ hl
      have h3 := R.own hlt h3
      cases h4
      simp only [h3, undef]
      exact hw
    · cases hw
  · cases hg

/-! Operations that turn memory. -/

def dStore (n : Nat) (a x : DV) (L : Own) (K : KK) : Prop :=
  match x.cellA with
  | none => False
  | some l =>
    bif Nat.beq l.length n && l.all DV.cell then
      match a with
      | .bptr j off => match lkO L.m j with
        | some (.box cells) => bif Nat.ble (off + n) cells.length then K .und (setO L j (.box (setAllD cells off l))) [] else False
        | _ => False
      | .aptr j e i off => match lkO L.m j with
        | some (.arr e' xs) => if h : e' = e then
            match asTy e (setAllD (flat e ((h ▸ xs : List e.D).getD i e.zero)) off l) with
            | some y => bif Nat.ble (off + n) e.size then i < (h ▸ xs : List e.D).length ∧ K .und (setO L j (.arr e ((h ▸ xs : List e.D).set i y))) [] else False
            | none => False
          else False
        | _ => False
      | _ => False
    else False

def dMkS (e : Ty) (bytes : Nat) (l c : DV) (L : Own) (K : KK) : Prop :=
  match l, c with
  | .int _ l, .int _ c => (0 ≤ l ∧ l ≤ c ∧ c ≤ 140737488355328 ∧ bytes * c.toNat ≤ 140737488355328) ∧ K (.osl L.nx e 0 l.toNat (some c.toNat)) (newO L (.arr e (List.replicate l.toNat e.zero))) []
  | _, _ => False

def dApp (e : Ty) (bytes : Nat) (keep : Bool) (a b : DV) (L : Own) (K : KK) : Prop :=
  match elB e L.m b with
  | none => False
  | some (side, ys) =>
    (match side with | none => True | some p => p) ∧
    match a with
    | .nils => ys.length * bytes ≤ 140737488355328 ∧ K (.osl L.nx e 0 ys.length none) (newO L (.arr e ys)) []
    | .sl e' s => if h : e' = e then
        ∃ c, s.cap = some c ∧ (ys.length = 0 ∨ c < s.l.length + ys.length) ∧ (s.l.length + ys.length) * bytes ≤ 140737488355328 ∧ K (.sl e ⟨(h ▸ s : Sl e.D).l ++ ys, none⟩) L []
      else False
    | .osl j e' off len cap => if e' = e then
        match lkO L.m j with
        | some (.arr e'' xs) => if h : e'' = e then
            bif Nat.beq off 0 && Nat.ble L.fx j then
              len ≤ (h ▸ xs : List e.D).length ∧ (len + ys.length) * bytes ≤ 140737488355328 ∧
              (bif keep then ∃ c, cap = some c ∧ len + ys.length ≤ c ∧ K (.osl j e 0 (len + ys.length) (some c)) (renew L j (.arr e ((h ▸ xs : List e.D).take len ++ ys))) [j]
               else K (.osl j e 0 (len + ys.length) none) (renew L j (.arr e ((h ▸ xs : List e.D).take len ++ ys))) [j])
            else False
          else False
        | _ => False
      else False
    | _ => False

/-- Operations that turn memory, but for calls: what is said of them. -/
def deff (x : DOp) (t : DT) (L : Own) (K : KK) : Prop :=
  match x with
  | .alloc z => K (.bptr L.nx 0) (newO L (.box z)) []
  | .allocA e n => K (.aptr L.nx e 0 0) (newO L (.arr e (List.replicate n e.zero))) []
  | .box x => match ev t x with
    | some d => match d.cellA with
      | some l => K (.bptr L.nx 0) (newO L (.box l)) []
      | none => False
    | none => False
  | .store n a x => match ev t a, ev t x with
    | some a, some x => dStore n a x L K
    | _, _ => False
  | .mkS e bytes l c => match ev t l, ev t c with
    | some l, some c => dMkS e bytes l c L K
    | _, _ => False
  | .bldS e n xs => match evs t xs with
    | some ds => match elemsOf e ds with
      | some ys => bif Nat.beq ds.length n then K (.osl L.nx e 0 n (some n)) (newO L (.arr e ys)) [] else False
      | none => False
    | none => False
  | .toB x => match ev t x with
    | some (.str q) => q.size < big ∧ K (.osl L.nx (.int .u8) 0 q.size none) (newO L (.arr (.int .u8) (strInts q))) []
    | _ => False
  | .app e bytes keep a b => match ev t a, ev t b with
    | some a, some b => dApp e bytes keep a b L K
    | _, _ => False
  | .nilq neg x => match ev t x with
    | some d => match lenD d with
      | some n => ∀ r : Bool, (r = true → n = 0) → K (.bool (bif neg then !r else r)) L []
      | none => False
    | none => False
  | _ => False

def resE (P : Program) : Op → DOp → Bool
  | .alloc ty, .alloc z => ((azero P ty).map fun zv => resCs zv.cells.toList z) == some true
  | .alloc ty, .allocA e n => ((azero P ty).map fun zv => isZs e n zv.cells.toList) == some true
  | .box _ a, .box x => resOd a x
  | .store ty a c, .store n x y => (asize P ty == some n) && resOd a x && resOd c y
  | .makeSlice ty a c, .mkS e bytes x y => mkT P ty e bytes && resOd a x && resOd c y
  | .buildSlice ty n parts, .bldS e n' xs => Nat.beq n n' && bldT P ty e n && resParts 0 parts.toList xs
  | .convert s d a, .toB x => isStrT P s && isBytesT P d && resOd a x
  | .call { callee := .builtin .append, args, argTypes }, .app e bytes _ x y => match args.toList with
    | [a, c] => appT P argTypes e.size bytes && resOd a x && resOd c y
    | _ => false
  | .binOp op ty a (.const (.slice none 0 0)) _, .nilq neg x => decide (op = if neg then .neq else .eql) && isSl P ty && resOd a x
  | _, _ => false

theorem deff_sound {x : DOp} {K : KK} (H : HS E η L h) (S : Slots st h (Fz E.gd η L.m) η t) (hr : resE P o.op x = true) (hok : okOper P o = true) (hd : deff x t L K) : OpE P E o st h η L K := by
  generalize ho : o.op = op at hr
  unfold resE at hr
  split at hr
  · exact yAlloc H hok ho (by simpa using hr) hd
  · exact yAllocA H hok ho (by simpa using hr) hd
  · simp only [deff] at hd
    split at hd
    · rename_i h1
      split at hd
      · rename_i h2
        exact yBox H S hok ho hr h1 h2 hd
      · exact hd.elim
    · exact hd.elim
  · -- store
    rename_i ty ao co n xo yo
    simp only [Bool.and_eq_true, beq_iff_eq] at hr
    simp only [deff] at hd
    split at hd
    rotate_left
    · exact hd.elim
    rename_i a x h1 h2
    unfold dStore at hd
    split at hd
    · exact hd.elim
    rename_i l hl
    cases hb : (Nat.beq l.length n && l.all DV.cell) with
    | false => simp only [hb, cond_false] at hd
    | true =>
    simp only [hb, cond_true] at hd
    simp only [Bool.and_eq_true] at hb
    have hn := Nat.eq_of_beq_eq_true hb.1
    split at hd
    · rename_i j off
      split at hd
      · rename_i cells hj
        cases hc : Nat.ble (off + n) cells.length with
        | false => simp only [hc, cond_false] at hd
        | true =>
          simp only [hc, cond_true] at hd
          exact yStoreB H S hok ho hr.1.1 hr.1.2 hr.2 h1 h2 hl hj hn (Nat.le_of_ble_eq_true hc) hb.2 hd
      · exact hd.elim
    · rename_i j e i off
      split at hd
      · rename_i e' xs hj
        split at hd
        · rename_i hee
          subst hee
          simp only at hd
          split at hd
          · rename_i y hy
            cases hc : Nat.ble (off + n) e'.size with
            | false => simp only [hc, cond_false] at hd
            | true =>
              simp only [hc, cond_true] at hd
              exact yStoreA H S hok ho hr.1.1 hr.1.2 hr.2 h1 h2 hl hj hn hd.1 (Nat.le_of_ble_eq_true hc) hb.2 hy hd.2
          · exact hd.elim
        · exact hd.elim
      · exact hd.elim
    · exact hd.elim
  · -- make
    simp only [Bool.and_eq_true] at hr
    simp only [deff] at hd
    split at hd
    rotate_left
    · exact hd.elim
    rename_i h1 h2
    unfold dMkS at hd
    split at hd
    · exact yMkS H S hok ho hr.1.1 hr.1.2 hr.2 h1 h2 hd.1 hd.2
    · exact hd.elim
  · -- a slice of known elements
    rename_i ty n parts e n' xs
    simp only [Bool.and_eq_true] at hr
    have hn := Nat.eq_of_beq_eq_true hr.1.1
    subst hn
    simp only [deff] at hd
    split at hd
    rotate_left
    · exact hd.elim
    rename_i ds h1
    split at hd
    rotate_left
    · exact hd.elim
    rename_i ys h2
    cases hb : Nat.beq ds.length n with
    | false => simp only [hb, cond_false] at hd
    | true =>
      simp only [hb, cond_true] at hd
      have := Nat.eq_of_beq_eq_true hb
      exact yBldS H S hok ho hr.1.2 hr.2 h1 h2 (by rw [elemsOf_len _ _ h2, this]) hd
  · simp only [Bool.and_eq_true] at hr
    simp only [deff] at hd
    split at hd
    · rename_i q h1
      exact yToB H S hok ho hr.1.1 hr.1.2 hr.2 h1 hd.1 hd.2
    · exact hd.elim
  · -- append
    rename_i args ats e bytes keep x y
    split at hr
    rotate_left
    · cases hr
    rename_i a c hargs
    simp only [Bool.and_eq_true] at hr
    obtain ⟨⟨hT, ra⟩, rc⟩ := hr
    simp only [deff] at hd
    split at hd
    rotate_left
    · exact hd.elim
    rename_i da dc h1 h2
    obtain ⟨va, a1, a2⟩ := od_sound S ra h1
    obtain ⟨vc, c1, c2⟩ := od_sound S rc h2
    have hk : knows st o = true := by rw [knows_eq, ho]; simp [Op.operands, Call.operands, hargs, kn_of a1, kn_of c1]
    unfold dApp at hd
    split at hd
    · exact hd.elim
    rename_i sd ys hel
    obtain ⟨hside, hd⟩ := hd
    obtain ⟨k1, new, k2, k3⟩ := elB_sound H.own c2 hel (fun p hp => by subst hp; exact hside)
    have fin : (∃ v h', aappend P h ats va vc = some (v, h') ∧ EffP E h η L K v h') → OpE P E o st h η L K := fun ⟨v, h', e1, e2⟩ => .of ⟨xAppend ho hok hk hargs a1 c1 e1, fun q => by simp [calm, ho] at q⟩ e2
    split at hd
    · cases a2
      exact fin (app_nil_eff H hT rfl k1 k2 k3 hd.1 hd.2)
    · rename_i e' s
      split at hd
      · rename_i hee
        subst hee
        obtain ⟨cc, q1, q2, q3, q4⟩ := hd
        exact fin (app_frozen_eff H hT rfl a2 k1 k2 k3 q3 q1 q2 q4)
      · exact hd.elim
    · rename_i j e' off len cap
      split at hd
      · rename_i hee
        subst hee
        split at hd
        · rename_i e'' xs hj
          split at hd
          · rename_i hee
            subst hee
            cases hb : (Nat.beq off 0 && Nat.ble L.fx j) with
            | false => simp only [hb, cond_false] at hd
            | true =>
              simp only [hb, cond_true] at hd
              simp only [Bool.and_eq_true] at hb
              have h0 := Nat.eq_of_beq_eq_true hb.1
              subst h0
              have hf := Nat.le_of_ble_eq_true hb.2
              obtain ⟨q1, q2, q3⟩ := hd
              cases keep with
              | true =>
                simp only [cond_true] at q3
                obtain ⟨cc, r1, r2, r3⟩ := q3
                exact fin (app_own_eff H hT rfl a2 hj hf q1 k1 k2 k3 q2 (.inr ⟨cc, r1, r2, rfl⟩) r3)
              | false =>
                simp only [cond_false] at q3
                exact fin (app_own_eff H hT rfl a2 hj hf q1 k1 k2 k3 q2 (.inl rfl) q3)
          · exact hd.elim
        · exact hd.elim
      · exact hd.elim
    · exact hd.elim
  · -- a slice and nil
    rename_i op ty a yt neg x
    simp only [Bool.and_eq_true, decide_eq_true_eq] at hr
    obtain ⟨⟨rfl, hT⟩, ra⟩ := hr
    simp only [deff] at hd
    split at hd
    rotate_left
    · exact hd.elim
    rename_i da h1
    split at hd
    rotate_left
    · exact hd.elim
    rename_i n hn
    obtain ⟨va, a1, a2⟩ := od_sound S ra h1
    unfold isSl at hT
    split at hT
    rotate_left
    · cases hT
    rename_i el hu
    have hva : ∃ b l c, va = .slice b l c ∧ (nilS b c = true → n = 0) := by
      unfold lenD at hn
      split at hn
      · cases hn
        cases a2 with | sl hs =>
        rcases hs with ⟨c, rfl, q, _⟩ | ⟨b, o', c, cs, rfl, _⟩
        · exact ⟨_, _, _, rfl, fun _ => by rw [q]; rfl⟩
        · exact ⟨_, _, _, rfl, fun q => by simp [nilS] at q⟩
      · cases hn
        cases a2 with
        | osl c n' o' h0 => exact ⟨_, _, _, rfl, fun q => by simp [nilS] at q⟩
        | onil hc ho => exact ⟨_, _, _, rfl, fun _ => rfl⟩
      · cases hn
        cases a2
        exact ⟨_, _, _, rfl, fun _ => rfl⟩
      · cases hn
    obtain ⟨b, l, c, rfl, hnil⟩ := hva
    have hnl : nilS none 0 = true := by simp [nilS, Nat.blt_eq, big_pos]
    have heq : aequal P 100 ty (.slice b l c) (.slice none 0 0) = some (nilS b c) := by
      show (match P.underlying ty, Value.slice b l c, Value.slice none 0 0 with
        | some (.struct fields), .agg xs, .agg ys => if P.stoodInHeld ty then none else aeqFields P (aequal P 99) xs ys fields.toList
        | some (.slice _), .slice a _ p, .slice b _ q => if nilS a p then some (nilS b q) else if nilS b q then some false else none
        | some (.func ..), .nilFunc, .nilFunc => some true
        | some (.func ..), .nilFunc, .func .. => some false
        | some (.func ..), .func .., .nilFunc => some false
        | some (.pointer _), .pointer none, .pointer b => some b.isNone
        | some (.pointer _), .pointer _, .pointer none => some false
        | some d, x, y => asame d x y
        | none, _, _ => none) = _
      rw [hu]
      simp only [hnl]
      cases nilS b c <;> rfl
    have hc : pevO st (.const (.slice none 0 0)) = some (.slice none 0 0) := rfl
    cases neg with
    | true =>
      simp only [cond_true, if_true] at hd ho
      refine .of (v := .bool (!(nilS b c))) ⟨OpP.toX (xBin ho hok a1 hc ?_), fun q => by simp [calm, ho] at q⟩ ⟨_, _, [], η, hd (nilS b c) hnil, H, .bool _, .refl⟩
      show (if noGuard P ty (.slice b l c) then (aequal P 100 ty (.slice b l c) (.slice none 0 0)).map (fun r => Value.bool (!r)) else none) = _
      rw [heq]; rfl
    | false =>
      simp only [cond_false, Bool.false_eq_true, if_false] at hd ho
      refine .of (v := .bool (nilS b c)) ⟨OpP.toX (xBin ho hok a1 hc ?_), fun q => by simp [calm, ho] at q⟩ ⟨_, _, [], η, hd (nilS b c) hnil, H, .bool _, .refl⟩
      show (if noGuard P ty (.slice b l c) then (aequal P 100 ty (.slice b l c) (.slice none 0 0)).map Value.bool else none) = _
      rw [heq]; rfl
  · cases hr

end Go.Am

