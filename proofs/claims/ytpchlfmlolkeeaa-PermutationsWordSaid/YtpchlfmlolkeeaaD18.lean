/-
  The data layer: code.
-/
import Derived.Test.YtpchlfmlolkeeaaD17
set_option linter.unusedSimpArgs false
set_option linter.unusedVariables false
namespace Go.Am
open Go Go.RowKit

/-- How many temporaries, and is it known that the frame is not one of a round? -/
structure NN where
  n : Nat
  rr : Bool

variable {P : Program} {o : Oper} {st : PT} {h : AHeap} {G F : Nat → Prop} {η : Nat → Nat → Prop} {t : DT} {L : Own} {side : Option Prop} {d : DV} {E : Env} {n : NN} {C : CO}

/-- Which operations of a region turn memory. -/
def effs : List DIt → List Bool
  | [] => []
  | .gh _ :: r => effs r
  | .pu _ :: r => false :: effs r
  | _ :: r => true :: effs r

def noCalls : List DIt → Bool
  | [] => true
  | .ca _ :: _ => false
  | _ :: r => noCalls r

def heapyOf (l : List DIt) (k : Nat) : Bool := (effs l).getD k false

/-- Where an operation may stand elsewhere, its outcome does not hang on memory. -/
def exPure (ops : Array Oper) (heapy : Nat → Bool) (ex : List (Nat × Nat)) : Bool :=
  ex.all fun x => !heapy x.1 && (match ops.toList[x.1]? with | some o => pureOp o | none => true)

theorem pureOp_any {t : PT} {h h' : AHeap} {v : Value} (hp : pureOp o = true) (H : OpS P o t h v) : OpS P o t h' v := by
  refine ⟨H.1, H.2.1, ?_⟩
  have := H.2.2
  unfold apure at this ⊢
  unfold pureOp at hp
  split at hp <;> rename_i heq <;> simp only [heq] at this ⊢ <;> try exact this
  · cases hp

theorem drop_get {α : Type} {l rest : List α} {o : α} {k : Nat} (h : l.drop k = o :: rest) : l[k]? = some o := by
  have := congrArg (fun x => x[0]?) h
  simpa using this
theorem drop_more {α : Type} {l rest : List α} {o : α} {k : Nat} (h : l.drop k = o :: rest) : l.drop (k + 1) = rest := by
  have := congrArg List.tail h
  simpa using this

/-- What was done so far. -/
def TrP (P : Program) (all : Array Oper) (heapy : Nat → Bool) (k : Nat) (tr : List (PT × Value × Bool)) : Prop :=
  tr.length = k ∧ ∀ j o t v, all.toList[j]? = some o → tr.reverse[j]? = some (t, v, true) → heapy j = false → pureOp o = true → ∃ h sv, (∀ i v, look? sv i = some v → FB ≤ i) ∧ okO o = true ∧ OpS P o (t ++ sv) h v

theorem TrP.step {all : Array Oper} {heapy : Nat → Bool} {k : Nat} {tr : List (PT × Value × Bool)} {t : PT} {v : Value} {w : Bool} (H : TrP P all heapy k tr) (ho : all.toList[k]? = some o)
    (h1 : w = true → heapy k = false → pureOp o = true → ∃ h sv, (∀ i v, look? sv i = some v → FB ≤ i) ∧ okO o = true ∧ OpS P o (t ++ sv) h v) : TrP P all heapy (k + 1) ((t, v, w) :: tr) := by
  refine ⟨by simp [H.1], fun j o' t' v' hj ht hh hp => ?_⟩
  rw [List.reverse_cons] at ht
  rcases Nat.lt_or_ge j k with hjk | hjk
  · rw [List.getElem?_append_left (by simp [H.1]; exact hjk)] at ht
    exact H.2 j o' t' v' hj ht hh hp
  · rw [List.getElem?_append_right (by simp [H.1]; exact hjk)] at ht
    simp only [List.length_reverse, H.1] at ht
    have : j = k := by
      rcases Nat.lt_or_ge k j with q | q
      · rw [List.getElem?_eq_none (by simp; omega)] at ht; cases ht
      · omega
    subst this
    simp at ht
    obtain ⟨rfl, rfl, rfl⟩ := ht
    rw [ho] at hj
    cases hj
    exact h1 rfl hh hp

theorem TrP.extra {all : Array Oper} {heapy : Nat → Bool} {k : Nat} {tr : List (PT × Value × Bool)} (H : TrP P all heapy k tr) : ∀ {ex : List (Nat × Nat)}, exPure all heapy ex = true → ∀ hs : List AHeap, Extra P all tr.reverse hs ex
  | [], _, _ => trivial
  | (a, m) :: ex, he, hs => by
    unfold exPure at he
    simp only [List.all_cons, Bool.and_eq_true, Bool.not_eq_true'] at he
    refine ⟨?_, TrP.extra H (by unfold exPure; exact he.2) hs⟩
    split
    · rename_i o t v h h1 h2 h3
      have hp := he.1.2
      rw [h1] at hp
      obtain ⟨h0, sv, g1, g2, g3⟩ := H.2 a o t v h1 h2 he.1.1 hp
      have g4 := pureOp_any (h' := h) hp g3
      exact OpK.drop g1 g2 (OpX.pure g4.1 g4.2.1 g4.2.2)
    · trivial

/-- The operations of a region that draws its order. -/
theorem dops_draw_sound {all : Array Oper} {heapy : Nat → Bool} {K : DT → Own → Prop} {ex : List (Nat × Nat)} (hex : exPure all heapy ex = true) : ∀ (l : List DIt) (rest : List Oper) (k : Nat) (t : DT) (L : Own) (η : Nat → Nat → Prop) (s : AS) (tr : List (PT × Value × Bool)) (hs : List AHeap),
    noCalls l = true → (∀ i, (effs l).getD i false = heapy (k + i)) → resIts P all rest l = true → dops P C l t L K → RS E η ⟨t, L⟩ s → all.toList.drop k = rest → TrP P all heapy k tr →
    ADr P all heapy ex (fun s' => ∃ η' t' L', K t' L' ∧ RS E η' ⟨t', L'⟩ s') rest k s tr hs := by
  intro l
  induction l with
  | nil =>
    intro rest k t L η s tr hs hn hh hr hd R hl hT
    cases rest with
    | nil => exact ⟨hT.extra hex _, η, t, L, hd, R⟩
    | cons _ _ => simp [resIts] at hr
  | cons x l ih =>
    intro rest k t L η s tr hs hn hh hr hd R hl hT
    cases x with
    | gh g =>
      have hr' : resIts P all rest l = true := by cases rest <;> simpa [resIts] using hr
      obtain ⟨t', L', hK, R'⟩ := dghost_sound hd R
      exact ih rest k t' L' η s tr hs hn hh hr' hK R' hl hT
    | ca x => simp [noCalls] at hn
    | pu x =>
      cases rest with
      | nil => simp [resIts] at hr
      | cons o rest =>
        have hh' : ∀ i, (effs l).getD i false = heapy (k + 1 + i) := fun i => by
          have := hh (i + 1)
          simpa [effs, Nat.add_assoc, Nat.add_comm 1 i] using this
        simp only [resIts, Bool.and_eq_true, beq_iff_eq] at hr
        obtain ⟨⟨⟨⟨⟨r1, r0⟩, r2⟩, r3⟩, r4⟩, r5⟩ := hr
        have rd : ∀ i, x.dst = some i → i < FB := fun i hi => okO_dst r0 i (by rw [r2]; exact hi)
        simp only [dops] at hd
        split at hd
        · rename_i hw
          have hd := factP_sound R.slots r4 hd
          split at hd
          · rename_i side d hp
            obtain ⟨hs', hd⟩ := sideP_sound hd
            obtain ⟨v, hop, hv⟩ := dpure_sound r4 r1 R.slots R.hs.own hp hs'
            have key : ∃ d', dops P C l (putD t x.dst d') L K ∧ RdV s.h (Fz E.gd η L.m) η d' v := by
              cases hsp : x.spl with
              | true => rw [hsp] at hd; exact splitD_sound hv hd
              | false => rw [hsp] at hd; exact ⟨d, hd, hv⟩
            obtain ⟨d', hd', hv'⟩ := key
            have R' := R.pure (dst := x.dst) rd hv'
            rw [← r2] at R' hd'
            exact .inl ⟨wantD_sound R r3 hw, v, s.h, OpK.drop R.sv r0 hop.toX, fun _ => rfl, ih rest _ _ L η _ _ _ hn hh' r5 hd' R' (drop_more hl) (hT.step (drop_get hl) fun _ _ hp => ⟨s.h, E.sv, R.sv, r0, hop.p (by rw [hp]; rfl)⟩)⟩
          · exact hd.elim
        · rename_i hw
          have R' := R.pure (dst := x.dst) rd (v := undef) (d := .und) .und
          rw [← r2] at R' hd
          exact .inr ⟨wantD_sound R r3 hw, ih rest _ _ L η _ _ _ hn hh' r5 hd R' (drop_more hl) (hT.step (drop_get hl) fun q _ _ => (by cases q))⟩
        · exact hd.elim
    | ef x =>
      cases rest with
      | nil => simp [resIts] at hr
      | cons o rest =>
        have hh' : ∀ i, (effs l).getD i false = heapy (k + 1 + i) := fun i => by
          have := hh (i + 1)
          simpa [effs, Nat.add_assoc, Nat.add_comm 1 i] using this
        have hk : heapy k = true := by have := hh 0; simpa [effs] using this.symm
        simp only [resIts, Bool.and_eq_true, beq_iff_eq] at hr
        obtain ⟨⟨⟨⟨⟨r1, r0⟩, r2⟩, r3⟩, r4⟩, r5⟩ := hr
        have rd : ∀ i, x.dst = some i → i < FB := fun i hi => okO_dst r0 i (by rw [r2]; exact hi)
        simp only [dops] at hd
        split at hd
        · rename_i hw
          obtain ⟨v, h', hop, hE⟩ := deff_sound R.hs R.slots r4 r1 hd
          obtain ⟨d, L', ks, η', hK, R'⟩ := R.eff (dst := x.dst) rd hE
          rw [← r2] at R' hK
          exact .inl ⟨wantD_sound R r3 hw, v, h', OpK.drop R.sv r0 hop, fun q => (by rw [hk] at q; cases q), ih rest _ _ L' η' _ _ _ hn hh' r5 hK R' (drop_more hl) (hT.step (drop_get hl) fun _ q _ => (by rw [hk] at q; cases q))⟩
        · rename_i hw
          have R' := R.pure (dst := x.dst) rd (v := undef) (d := .und) .und
          rw [← r2] at R' hd
          exact .inr ⟨wantD_sound R r3 hw, ih rest _ _ L η _ _ _ hn hh' r5 hd R' (drop_more hl) (hT.step (drop_get hl) fun q _ _ => (by cases q))⟩
        · exact hd.elim

inductive DCode where
  | skip
  | reg (l : List DIt) (draw : Bool)
  | seq (a b : DCode)
  | cond (i : Nat) (a b : DCode)
  | block (id : Nat) (a : DCode)
  | loop (a : DCode)
  | exit (id : Nat)
  | ret
  | label (l : Nat)
  | gh (g : Ghost) (a : DCode)
  | scope (a : DCode)
  | rfn (x : Od) (ps : List Nat) (a b : DCode)

def resCode (P : Program) (n : Nat) : Code → DCode → Bool
  | c, .gh _ a => resCode P n c a
  | .skip, .skip => true
  | .region _ ops draw, .reg l dr => (draw == dr) && dstOk n ops && resIts P ops ops.toList l && (!draw || (noCalls l && regionOkL ops (heapyOf l) && exPure ops (heapyOf l) (extras ops (heapyOf l))))
  | .seq a b, .seq c d => resCode P n a c && resCode P n b d
  | .cond (.tmp i) a b, .cond j c d => Nat.beq i j && Nat.blt j FB && resCode P n a c && resCode P n b d
  | .block i a, .block j c => Nat.beq i j && resCode P n a c
  | .loop a, .loop c => resCode P n a c
  | .exit i, .exit j => Nat.beq i j
  | .ret, .ret => true
  | .label i, .label j => Nat.beq i j
  | .scope a, .scope c => resCode P n a c
  | .rangeFunc (.tmp i) qs a b, .rfn (.t j) ps c d => Nat.beq i j && Nat.blt j FB && (qs.toList == ps) && (ps.all fun p => Nat.blt p n && Nat.blt p FB) && resCode P n a c && resCode P n b d
  | _, _ => false

abbrev QQ := AEx → DS → Prop

/-- A scope of labels to which nothing jumps. -/
theorem AW.scope {rr : Bool} {n0 n : Nat} {Q : AEx → AS → Prop} {s : AS} {c : Code} (H : AW rr P n0 n c (fun e s => (∀ l, e ≠ .goto l) ∧ Q e s) s) : AW rr P n0 n (.scope c) Q s := by
  intro ρ w0 w b a k cs hs hb
  obtain ⟨e, s1, ρ1, a1, w1, q1, g1, r1, h1⟩ := H ρ w0 w b a (.inScope c :: k) cs hs hb
  have st : step P (lone (b.atR a (.code (.scope c) :: k)) cs w) = .next (lone (b.atR a (.code c :: .inScope c :: k)) cs w) := step_lone_go (by simp [stepG, stepG.exec, Frame.atR])
  cases e with
  | normal =>
    have st' : ∀ a w, step P (lone (b.atR a (.inScope c :: k)) cs w) = .next (lone (b.atR a k) cs w) := fun a w => step_lone_go (by simp [stepG, stepG.exec, Frame.atR])
    exact ⟨.normal, s1, ρ1, a1, w1, q1.2, g1, r1, .head st (h1.trans (.one (st' _ _)))⟩
  | exit id' =>
    obtain ⟨k1, hk1, hst⟩ := h1
    exact ⟨.exit id', s1, ρ1, a1, w1, q1.2, g1, r1, k1, by rw [hk1]; rfl, .head st hst⟩
  | goto l => exact absurd rfl (q1.1 l)
  | ret =>
    obtain ⟨k1, hst⟩ := h1
    exact ⟨.ret, s1, ρ1, a1, w1, q1.2, g1, r1, k1, .head st hst⟩

/-- What is said of code: from a state, to where it goes. -/
def DW (P : Program) (n : NN) (c : Code) (Q : QQ) (ds : DS) : Prop :=
  ∀ (E : Env) (η : Nat → Nat → Prop) (s : AS) (N : Nat), Base P E.h → RS E η ds s → AW n.rr P N n.n c (fun e s' => ∃ η' ds', Q e ds' ∧ RS E η' ds' s') s

def DWc (P : Program) (n : NN) (c : DCode) (Q : QQ) (ds : DS) : Prop := ∀ c0, resCode P n.n c0 c = true → DW P n c0 Q ds

/-- What comes behind a loop is left as it stands while the code before it is opened. -/
@[congr] theorem DWc_congr {c : DCode} {Q : QQ} {s s' : DS} (h : s = s') : DWc P n c Q s = DWc P n c Q s' := by rw [h]
@[congr] theorem DI_congr {f : Nat} {args args' : List DV} {t t' : DT} {L L' : Own} {K : KT} (ha : args = args') (ht : t = t') (hl : L = L') : DI P f args t L K = DI P f args' t' L' K := by rw [ha, ht, hl]
@[congr] theorem DY_congr {j : Nat} {args args' : List DV} {t t' : DT} {L L' : Own} {K : KT} (ha : args = args') (ht : t = t') (hl : L = L') : DY P j args t L K = DY P j args' t' L' K := by rw [ha, ht, hl]

theorem DW.mono {c : Code} {Q Q' : QQ} {ds : DS} (H : DW P n c Q ds) (hq : ∀ e s, Q e s → Q' e s) : DW P n c Q' ds :=
  fun E η s N B R => (H E η s N B R).mono fun e s' ⟨η', ds', q, r⟩ => ⟨η', ds', hq e ds' q, r⟩

theorem DWc.mono {c : DCode} {Q Q' : QQ} {ds : DS} (H : DWc P n c Q ds) (hq : ∀ e s, Q e s → Q' e s) : DWc P n c Q' ds := fun c0 hr => (H c0 hr).mono hq

theorem DW.reg (Kp : POk P) (CK : COk P C) {l : List DIt} {dr : Bool} {c0 : Code} {Q : QQ} {ds : DS} (hr : resCode P n.n c0 (.reg l dr) = true) (hd : dops P C l ds.t ds.L fun t L => Q .normal ⟨t, L⟩) : DW P n c0 Q ds := by
  cases c0 <;> simp only [resCode, Bool.false_eq_true] at hr
  rename_i id ops draw
  simp only [Bool.and_eq_true, beq_iff_eq] at hr
  obtain ⟨⟨⟨rfl, r2⟩, r3⟩, r4⟩ := hr
  intro E η s N B R
  cases draw with
  | false =>
    refine AW.region r2 ?_
    have := dops_sound Kp CK B (n := n.n) (all := ops) l ops.toList ds.t ds.L η s r3 hd R
    have key : ∀ (rest : List Oper) (s : AS), AOps P n.n ops (fun s' => ∃ η' t' L', Q .normal ⟨t', L'⟩ ∧ RS E η' ⟨t', L'⟩ s') rest s → AOps P n.n ops (fun s' => ∃ η' ds', Q .normal ds' ∧ RS E η' ds' s') rest s := by
      intro rest
      induction rest with
      | nil => exact fun s ⟨η', t', L', q, r⟩ => ⟨η', _, q, r⟩
      | cons o rest ih =>
        intro s hA
        rcases hA with ⟨hw, hop⟩ | ⟨hw, hA⟩
        · exact .inl ⟨hw, OpK.mono hop fun v h' => ih _⟩
        · exact .inr ⟨hw, ih _ hA⟩
    exact key _ _ this
  | true =>
    simp only [Bool.not_true, Bool.false_or, Bool.and_eq_true] at r4
    obtain ⟨⟨q1, q2⟩, q3⟩ := r4
    have := dops_draw_sound (P := P) (C := C) (E := E) (all := ops) (heapy := heapyOf l) q3 l ops.toList 0 ds.t ds.L η s [] [] q1 (fun i => by rw [Nat.zero_add]; rfl) r3 hd R rfl ⟨rfl, fun j o t v _ h => by simp at h⟩
    refine AW.regionDraw Kp (heapyOf l) _ q2 rfl r2 ?_
    have key : ∀ (rest : List Oper) (k : Nat) (s : AS) (tr : List (PT × Value × Bool)) (hs : List AHeap), ADr P ops (heapyOf l) (extras ops (heapyOf l)) (fun s' => ∃ η' t' L', Q .normal ⟨t', L'⟩ ∧ RS E η' ⟨t', L'⟩ s') rest k s tr hs →
        ADr P ops (heapyOf l) (extras ops (heapyOf l)) (fun s' => ∃ η' ds', Q .normal ds' ∧ RS E η' ds' s') rest k s tr hs := by
      intro rest
      induction rest with
      | nil => exact fun k s tr hs ⟨a, η', t', L', q, r⟩ => ⟨a, η', _, q, r⟩
      | cons o rest ih =>
        intro k s tr hs hA
        rcases hA with ⟨hw, v, h', hop, hq, hA⟩ | ⟨hw, hA⟩
        · exact .inl ⟨hw, v, h', hop, hq, ih _ _ _ _ hA⟩
        · exact .inr ⟨hw, ih _ _ _ _ hA⟩
    exact key _ _ _ _ _ this

end Go.Am

