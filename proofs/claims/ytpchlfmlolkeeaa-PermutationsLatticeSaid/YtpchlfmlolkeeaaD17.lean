/-
  The data layer: what is to be shown of code.
-/
import Derived.Test.YtpchlfmlolkeeaaD16
set_option linter.unusedSimpArgs false
set_option linter.unusedVariables false
namespace Go.Am
open Go Go.RowKit

variable {P : Program} {o : Oper} {st : PT} {h : AHeap} {G F : Nat → Prop} {η : Nat → Nat → Prop} {t : DT} {L : Own} {side : Option Prop} {d : DV} {E : Env} {n : Nat} {C : CO}

def sideP (s : Option Prop) (X : Prop) : Prop :=
  match s with
  | none => X
  | some p => p ∧ X

/-- What may be taken for granted of an operation's operands. -/
def dfact (x : DOp) (t : DT) : Option Prop :=
  match x with
  | .len a => match ev t a with
    | some d => match lenD d with
      | some n => some (n < 1152921504606846976)
      | none => none
    | none => none
  | _ => none

def factP (s : Option Prop) (X : Prop) : Prop :=
  match s with
  | none => X
  | some p => p → X

theorem lenD_lt {x : DV} {v : Value} {n : Nat} (hv : RdV h F η x v) (hn : lenD x = some n) : n < big := by
  unfold lenD at hn
  split at hn
  · cases hn
    cases hv with | sl hs =>
    rcases hs with ⟨c, _, q, _⟩ | ⟨b, o', c, cs, _, _, _, _, g5, _⟩
    · rw [q]; exact big_pos
    · exact g5
  · cases hn
    cases hv with
    | osl c n' o' h0 h1 h2 h3 => exact h3
    | onil hc ho => exact big_pos
  · cases hn; exact big_pos
  · cases hn

theorem factP_sound {s : PT} {x : DOp} {X : Prop} {op : Op} (S : Slots s h F η t) (hr : resOp P op x = true) (hf : factP (dfact x t) X) : X := by
  unfold dfact at hf
  split at hf
  · rename_i a
    split at hf
    · rename_i d hev
      split at hf
      · rename_i n hn
        refine hf ?_
        unfold resOp at hr
        split at hr
        all_goals try contradiction
        rename_i heq
        cases heq
        split at hr
        · simp only [Bool.and_eq_true] at hr
          obtain ⟨v, _, hv⟩ := od_sound S hr.2 hev
          exact lenD_lt hv hn
        · cases hr
      · exact hf
    · exact hf
  · exact hf

def splitD (d : DV) (k : DV → Prop) : Prop :=
  match d with
  | .bool b => (b = true → k (.lit true)) ∧ (b = false → k (.lit false))
  | d => k d

def dcall (P : Program) (C : CO) (x : DOp) (t : DT) (L : Own) (K : KT) : Prop :=
  match x with
  | .call f xs => match evs t xs with
    | some ds => C f ds t L K
    | none => False
  | .callV a xs => match ev t a, evs t xs with
    | some (.clo f as us), some ds => C f (as ++ ds ++ us) t L K
    | some (.yl j), some ds => DY P j ds t L K
    | _, _ => False
  | _ => False

def dops (P : Program) (C : CO) : List DIt → DT → Own → (DT → Own → Prop) → Prop
  | [], t, L, K => K t L
  | .gh g :: r, t, L, K => dghost g t L fun t L => dops P C r t L K
  | .pu o :: r, t, L, K => match wantD t o.grd with
    | some true => factP (dfact o.op t) (match dpure o.op t L.m with
      | some (side, d) => sideP side (bif o.spl then splitD d fun d => dops P C r (putD t o.dst d) L K else dops P C r (putD t o.dst d) L K)
      | none => False)
    | some false => dops P C r (putD t o.dst .und) L K
    | none => False
  | .ef o :: r, t, L, K => match wantD t o.grd with
    | some true => deff o.op t L fun d L' ks => dops P C r (putD (killT ks t) o.dst d) L' K
    | some false => dops P C r (putD t o.dst .und) L K
    | none => False
  | .ca o :: r, t, L, K => match wantD t o.grd with
    | some true => dcall P C o.op t L fun d t' L' => dops P C r (putD t' o.dst d) L' K
    | some false => dops P C r (putD t o.dst .und) L K
    | none => False

def resCall : Op → DOp → Bool
  | .call { callee := .value (.func f), args, .. }, .call g xs => Nat.beq f g && resOds args.toList xs
  | .call { callee := .value (.tmp i), args, .. }, .callV (.t j) xs => Nat.beq i j && resOds args.toList xs
  | _, _ => false

def resIts (P : Program) (all : Array Oper) : List Oper → List DIt → Bool
  | [], [] => true
  | l, .gh _ :: r => resIts P all l r
  | o :: l, .pu x :: r => okOper P o && okO o && (o.dst == x.dst) && grdOk all o x.grd && resOp P o.op x.op && resIts P all l r
  | o :: l, .ef x :: r => okOper P o && okO o && (o.dst == x.dst) && grdOk all o x.grd && resE P o.op x.op && resIts P all l r
  | o :: l, .ca x :: r => okOper P o && okO o && (o.dst == x.dst) && grdOk all o x.grd && resCall o.op x.op && resIts P all l r
  | _, _ => false

theorem splitD_sound {k : DV → Prop} {v : Value} (hv : RdV h F η d v) (hs : splitD d k) : ∃ d', k d' ∧ RdV h F η d' v := by
  unfold splitD at hs
  split at hs
  · rename_i b
    cases hv
    cases b with
    | true => exact ⟨_, hs.1 rfl, .lit _⟩
    | false => exact ⟨_, hs.2 rfl, .lit _⟩
  · exact ⟨_, hs, hv⟩

theorem sideP_sound {X : Prop} (hs : sideP side X) : (∀ p, side = some p → p) ∧ X := by
  unfold sideP at hs
  split at hs
  · exact ⟨fun p hp => (by cases hp), hs⟩
  · exact ⟨fun p hp => (by cases hp; exact hs.1), hs.2⟩

/-- The operations of a region without an order to draw. -/
theorem dops_sound (Kp : POk P) (CK : COk P C) (B : Base P E.h) {all : Array Oper} {K : DT → Own → Prop} : ∀ (l : List DIt) (rest : List Oper) (t : DT) (L : Own) (η : Nat → Nat → Prop) (s : AS),
    resIts P all rest l = true → dops P C l t L K → RS E η ⟨t, L⟩ s → AOps P n all (fun s' => ∃ η' t' L', K t' L' ∧ RS E η' ⟨t', L'⟩ s') rest s := by
  intro l
  induction l with
  | nil =>
    intro rest t L η s hr hd R
    cases rest with
    | nil => exact ⟨η, t, L, hd, R⟩
    | cons _ _ => simp [resIts] at hr
  | cons x l ih =>
    intro rest t L η s hr hd R
    cases x with
    | gh g =>
      have hr' : resIts P all rest l = true := by cases rest <;> simpa [resIts] using hr
      obtain ⟨t', L', hK, R'⟩ := dghost_sound hd R
      exact ih rest t' L' η s hr' hK R'
    | pu x =>
      cases rest with
      | nil => simp [resIts] at hr
      | cons o rest =>
        simp only [resIts, Bool.and_eq_true, beq_iff_eq] at hr
        obtain ⟨⟨⟨⟨⟨r1, r0⟩, r2⟩, r3⟩, r4⟩, r5⟩ := hr
        have rd : ∀ i, x.dst = some i → i < FB := fun i hi => okO_dst r0 i (by rw [r2]; exact hi)
        simp only [dops] at hd
        split at hd
        · rename_i hw
          have hd := factP_sound R.slots r4 hd
          split at hd
          · rename_i side d hp
            obtain ⟨hs, hd⟩ := sideP_sound hd
            obtain ⟨v, hop, hv⟩ := dpure_sound r4 r1 R.slots R.hs.own hp hs
            have key : ∃ d', dops P C l (putD t x.dst d') L K ∧ RdV s.h (Fz E.gd η L.m) η d' v := by
              cases hsp : x.spl with
              | true => rw [hsp] at hd; exact splitD_sound hv hd
              | false => rw [hsp] at hd; exact ⟨d, hd, hv⟩
            obtain ⟨d', hd', hv'⟩ := key
            refine .inl ⟨wantD_sound R r3 hw, OpK.drop R.sv r0 (OpK.mono hop.toX ?_)⟩
            rintro v' h' ⟨rfl, rfl⟩
            have R' := R.pure (dst := x.dst) rd hv'
            rw [← r2] at R' hd'
            exact ih rest _ L η _ r5 hd' R'
          · exact hd.elim
        · rename_i hw
          refine .inr ⟨wantD_sound R r3 hw, ?_⟩
          have R' := R.pure (dst := x.dst) rd (v := undef) (d := .und) .und
          rw [← r2] at R' hd
          exact ih rest _ L η _ r5 hd R'
        · exact hd.elim
    | ef x =>
      cases rest with
      | nil => simp [resIts] at hr
      | cons o rest =>
        simp only [resIts, Bool.and_eq_true, beq_iff_eq] at hr
        obtain ⟨⟨⟨⟨⟨r1, r0⟩, r2⟩, r3⟩, r4⟩, r5⟩ := hr
        have rd : ∀ i, x.dst = some i → i < FB := fun i hi => okO_dst r0 i (by rw [r2]; exact hi)
        simp only [dops] at hd
        split at hd
        · rename_i hw
          obtain ⟨v, h', hop, hE⟩ := deff_sound R.hs R.slots r4 r1 hd
          refine .inl ⟨wantD_sound R r3 hw, OpK.drop R.sv r0 (OpK.mono hop.x ?_)⟩
          rintro v' h'' ⟨rfl, rfl⟩
          obtain ⟨d, L', ks, η', hK, R'⟩ := R.eff (dst := x.dst) rd hE
          rw [← r2] at R' hK
          exact ih rest _ L' η' _ r5 hK R'
        · rename_i hw
          refine .inr ⟨wantD_sound R r3 hw, ?_⟩
          have R' := R.pure (dst := x.dst) rd (v := undef) (d := .und) .und
          rw [← r2] at R' hd
          exact ih rest _ L η _ r5 hd R'
        · exact hd.elim
    | ca x =>
      cases rest with
      | nil => simp [resIts] at hr
      | cons o rest =>
        simp only [resIts, Bool.and_eq_true, beq_iff_eq] at hr
        obtain ⟨⟨⟨⟨⟨r1, r0⟩, r2⟩, r3⟩, r4⟩, r5⟩ := hr
        have rd : ∀ i, x.dst = some i → i < FB := fun i hi => okO_dst r0 i (by rw [r2]; exact hi)
        simp only [dops] at hd
        split at hd
        · rename_i hw
          refine .inl ⟨wantD_sound R r3 hw, ?_⟩
          have post : ∀ K2 : KT, (∀ d t' L', K2 d t' L' → dops P C l (putD t' x.dst d) L' K) →
              OpK P o (s.t ++ E.sv) s.h (fun v h' => ∃ d t' L' η', K2 d t' L' ∧ RdV h' (Fz E.gd η' L'.m) η' d v ∧ RS E η' ⟨t', L'⟩ ⟨s.t, h', s.d⟩) →
              OpK P o s.t s.h (fun v h' => AOps P n all (fun s' => ∃ η' t' L', K t' L' ∧ RS E η' ⟨t', L'⟩ s') rest ⟨upd s.t o.dst v, h', s.d⟩) := by
            intro K2 hK2 hop
            refine OpK.drop R.sv r0 (OpK.mono hop ?_)
            rintro v h' ⟨d, t', L', η', hK, hv, R'⟩
            have hK := hK2 _ _ _ hK
            have R2 := R'.pure (dst := x.dst) rd hv
            rw [← r2] at R2 hK
            exact ih rest _ L' η' _ r5 hK R2
          have fin : ∀ (f : Nat) (ds : List DV) (ws : List Value) (K2 : KT), aop P (pev (s.t ++ E.sv)) s.h o = some (.enter f ws s.h) → knows (s.t ++ E.sv) o = true → PV s.h (Fz E.gd η L.m) η ds ws → C f ds t L K2 →
              OpK P o (s.t ++ E.sv) s.h (fun v h' => ∃ d t' L' η', K2 d t' L' ∧ RdV h' (Fz E.gd η' L'.m) η' d v ∧ RS E η' ⟨t', L'⟩ ⟨s.t, h', s.d⟩) := by
            intro f ds ws K2 hop hk hp hC
            have DC := CK f ds t L K2 hC
            obtain ⟨fn, hf, hb⟩ := DC.1
            intro ρ w0 w a Hh HT
            exact OpK.call Kp hop hk hf hb (DC.2 E η s ws B Hh.base R hp) ρ w0 w a Hh HT
          generalize hoo : o.op = op at r4
          generalize hxo : x.op = xo at r4 hd
          unfold resCall at r4
          split at r4
          · rename_i f args ats g xs
            simp only [Bool.and_eq_true] at r4
            have := Nat.eq_of_beq_eq_true r4.1
            subst this
            simp only [dcall] at hd
            split at hd
            · rename_i ds hds
              obtain ⟨ws, k1, k2, k3, k4⟩ := ods_sound R.slots _ _ _ r4.2 hds
              have hk : knows (s.t ++ E.sv) o = true := by rw [knows_eq, hoo]; simpa [Op.operands, Call.operands, kn] using k2
              refine post _ (fun _ _ _ q => q) (fin f ds ws _ ?_ hk ⟨k3, k4⟩ hd)
              unfold aop
              rw [r1]
              simp only [cond_true]
              have h1 : apure P (pev (s.t ++ E.sv)) s.h o = none := by unfold apure; rw [hoo]
              rw [h1]
              unfold aeff
              rw [hoo]
              simp only [pev, k1, Array.toList_empty, List.nil_append, List.append_nil]
            · exact hd.elim
          · rename_i i args ats j xs
            simp only [Bool.and_eq_true] at r4
            have := Nat.eq_of_beq_eq_true r4.1
            subst this
            simp only [dcall] at hd
            split at hd
            · rename_i f as us ds hev hds
              obtain ⟨ws, k1, k2, k3, k4⟩ := ods_sound R.slots _ _ _ r4.2 hds
              obtain ⟨v, g1, g2⟩ := R.slots i _ hev
              cases g2 with | @clo _ _ _ vs us' m1 m2 m3 m4 =>
              have hki : kn (s.t ++ E.sv) (.tmp i) = true := by simp [kn, g1]
              have hk : knows (s.t ++ E.sv) o = true := by
                rw [knows_eq, hoo]
                simp only [Op.operands, Call.operands, Array.toList_append, List.all_append, k2, Bool.and_true]
                simpa using hki
              have hp : PV s.h (Fz E.gd η L.m) η (as ++ ds ++ us) (vs.toList ++ ws ++ us'.toList) :=
                PV.append (PV.append ⟨by simpa using m1, fun i d x a b => m2 i d x a (by simpa using b)⟩ ⟨k3, k4⟩) ⟨by simpa using m3, fun i d x a b => m4 i d x a (by simpa using b)⟩
              refine post _ (fun _ _ _ q => q) (fin f _ _ _ ?_ hk hp hd)
              unfold aop
              rw [r1]
              simp only [cond_true]
              have h1 : apure P (pev (s.t ++ E.sv)) s.h o = none := by unfold apure; rw [hoo]
              rw [h1]
              unfold aeff
              rw [hoo]
              simp only [pev, g1, Option.getD_some, k1]
            · rename_i jy ds hev hds
              obtain ⟨ws, k1, k2, k3, k4⟩ := ods_sound R.slots _ _ _ r4.2 hds
              obtain ⟨v, g1, g2⟩ := R.slots i _ hev
              cases g2 with | @yl _ b m1 =>
              have hki : kn (s.t ++ E.sv) (.tmp i) = true := by simp [kn, g1]
              have hk : knows (s.t ++ E.sv) o = true := by
                rw [knows_eq, hoo]
                simp only [Op.operands, Call.operands, Array.toList_append, List.all_append, k2, Bool.and_true]
                simpa using hki
              refine post _ (fun _ _ _ q => q) ?_
              intro ρ w0 w a Hh HT
              refine hd E η s ws b B Hh.base R ⟨k3, k4⟩ m1 o (s.t ++ E.sv) ?_ hk ρ w0 w a Hh HT
              unfold aop
              rw [r1]
              simp only [cond_true]
              have h1 : apure P (pev (s.t ++ E.sv)) s.h o = none := by unfold apure; rw [hoo]
              rw [h1]
              unfold aeff
              rw [hoo]
              simp only [pev, g1, Option.getD_some, k1, Array.toList_empty, List.nil_append]
            · exact hd.elim
          · cases r4
        · rename_i hw
          refine .inr ⟨wantD_sound R r3 hw, ?_⟩
          have R' := R.pure (dst := x.dst) rd (v := undef) (d := .und) .und
          rw [← r2] at R' hd
          exact ih rest _ L η _ r5 hd R'
        · exact hd.elim

end Go.Am

