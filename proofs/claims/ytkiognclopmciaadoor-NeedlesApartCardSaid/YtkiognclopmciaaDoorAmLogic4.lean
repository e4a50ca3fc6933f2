/-
  The logic: blocks of one's own are renumbered, and what is not used any more is dropped.
-/
import Derived.Test.YtkiognclopmciaaDoorAmLogic3
namespace Go.Am
open Go Go.RowKit

variable {P : Program} {n0 n : Nat} {Q : AEx → AS → Prop} {s : AS}

inductive FnRN (n0 : Nat) (gl : List Nat) : Fn → Fn → Prop where
  | func (f : FuncId) : FnRN n0 gl (.func f) (.func f)
  | yieldB {l : Nat} : l < n0 → FnRN n0 gl (.yield l) (.yield l)
  | yieldL {j k : Nat} : gl[j]? = some k → FnRN n0 gl (.yield (n0 + j)) (.yield (n0 + k))

/-- Values as they were called, and as they are called now: the block n0 + j is what was n0 + gl[j]. -/
inductive RN (n0 : Nat) (gl : List Nat) : Value → Value → Prop where
  | bool (b : Bool) : RN n0 gl (.bool b) (.bool b)
  | int (k : IntKind) (i : Int) : RN n0 gl (.int k i) (.int k i)
  | string (s : ByteArray) : RN n0 gl (.string s) (.string s)
  | nilFunc : RN n0 gl .nilFunc .nilFunc
  | nilIface : RN n0 gl .nilIface .nilIface
  | pnil : RN n0 gl (.pointer none) (.pointer none)
  | ptrB {b : Nat} (i : Nat) : b < n0 → RN n0 gl (.pointer (some ⟨b, i, none⟩)) (.pointer (some ⟨b, i, none⟩))
  | ptrL {j k : Nat} (i : Nat) : gl[j]? = some k → RN n0 gl (.pointer (some ⟨n0 + j, i, none⟩)) (.pointer (some ⟨n0 + k, i, none⟩))
  | snil (k c : Nat) : RN n0 gl (.slice none k c) (.slice none k c)
  | sliceB {b : Nat} (i k c : Nat) : b < n0 → RN n0 gl (.slice (some ⟨b, i, none⟩) k c) (.slice (some ⟨b, i, none⟩) k c)
  | sliceL {j k : Nat} (i m c : Nat) : gl[j]? = some k → RN n0 gl (.slice (some ⟨n0 + j, i, none⟩) m c) (.slice (some ⟨n0 + k, i, none⟩) m c)
  | agg (xs ys : Array Value) : xs.size = ys.size → (∀ (i : Nat) (x y : Value), xs[i]? = some x → ys[i]? = some y → RN n0 gl x y) → RN n0 gl (.agg xs) (.agg ys)
  | tuple (xs ys : Array Value) : xs.size = ys.size → (∀ (i : Nat) (x y : Value), xs[i]? = some x → ys[i]? = some y → RN n0 gl x y) → RN n0 gl (.tuple xs) (.tuple ys)
  | func (f g : Fn) (xs ys us vs : Array Value) : FnRN n0 gl f g → xs.size = ys.size → (∀ (i : Nat) (x y : Value), xs[i]? = some x → ys[i]? = some y → RN n0 gl x y) →
      us.size = vs.size → (∀ (i : Nat) (x y : Value), us[i]? = some x → vs[i]? = some y → RN n0 gl x y) → RN n0 gl (.func f xs us) (.func g ys vs)

theorem RN.of_in {gl : List Nat} {v : Value} (h : In n0 v) : RN n0 gl v v := by
  induction h with
  | bool b => exact .bool b
  | int k i => exact .int k i
  | string s => exact .string s
  | nilFunc => exact .nilFunc
  | nilIface => exact .nilIface
  | pnil => exact .pnil
  | ptr i h => exact .ptrB i h
  | snil k c => exact .snil k c
  | slice i k c h => exact .sliceB i k c h
  | agg xs _ ih => exact .agg xs xs rfl fun i x y h1 h2 => (by rw [h1] at h2; cases h2; exact ih i x h1)
  | tuple xs _ ih => exact .tuple xs xs rfl fun i x y h1 h2 => (by rw [h1] at h2; cases h2; exact ih i x h1)
  | func f xs us hf _ _ ih1 ih2 => exact .func f f xs xs us us (by cases hf with | func f => exact .func f | yield h => exact .yieldB h) rfl (fun i x y h1 h2 => by rw [h1] at h2; cases h2; exact ih1 i x h1) rfl (fun i x y h1 h2 => by rw [h1] at h2; cases h2; exact ih2 i x h1)

theorem RN.vr {ρ ρ' : Ren} {gl : List Nat} (hB : ∀ b p, b < n0 → ρ[b]? = some p → ρ'[b]? = some p) (hL : ∀ j k p, gl[j]? = some k → ρ[n0 + k]? = some p → ρ'[n0 + j]? = some p) {x y z : Value} (h : RN n0 gl x y) (v : VR ρ y z) : VR ρ' x z := by
  induction h generalizing z with
  | bool b => cases v; exact .bool b
  | int k i => cases v; exact .int k i
  | string s => cases v; exact .string s
  | nilFunc => cases v; exact .nilFunc
  | nilIface => cases v; exact .nilIface
  | pnil => cases v; exact .pnil
  | ptrB i h => cases v with | ptr _ hp => exact .ptr i (hB _ _ h hp)
  | ptrL i h => cases v with | ptr _ hp => exact .ptr i (hL _ _ _ h hp)
  | snil k c => cases v with | snil _ _ h => exact .snil k c h
  | sliceB i k c h =>
    cases v with
    | slice _ _ _ hp hc => exact .slice i k c (hB _ _ h hp) hc
    | «open» _ _ _ hp hn hz => exact .open i k _ (hB _ _ h hp) hn hz
  | sliceL i k c h =>
    cases v with
    | slice _ _ _ hp hc => exact .slice i k c (hL _ _ _ h hp) hc
    | «open» _ _ _ hp hn hz => exact .open i k _ (hL _ _ _ h hp) hn hz
  | agg xs ys hs _ ih =>
    cases v with
    | agg _ zs hs2 hv =>
      refine .agg xs zs (hs.trans hs2) fun i x z hx hz => ?_
      obtain ⟨y, hy⟩ := pair_of_size hs hx
      exact ih i x y hx hy (hv i y z hy hz)
  | tuple xs ys hs _ ih =>
    cases v with
    | tuple _ zs hs2 hv =>
      refine .tuple xs zs (hs.trans hs2) fun i x z hx hz => ?_
      obtain ⟨y, hy⟩ := pair_of_size hs hx
      exact ih i x y hx hy (hv i y z hy hz)
  | func f f2 xs ys us vs hf h1 _ h2 _ ih1 ih2 =>
    cases v with
    | func _ g _ zs _ ws hfr k1 kv k2 kw =>
      refine .func f g xs zs us ws ?_ (h1.trans k1) (fun i x z hx hz => ?_) (h2.trans k2) (fun i x z hx hz => ?_)
      · cases hf with
        | func f => cases hfr; exact .func f
        | yieldB hl => cases hfr with | yield hp => exact .yield (hB _ _ hl hp)
        | yieldL hl => cases hfr with | yield hp => exact .yield (hL _ _ _ hl hp)
      · obtain ⟨y, hy⟩ := pair_of_size h1 hx
        exact ih1 i x y hx hy (kv i y z hy hz)
      · obtain ⟨y, hy⟩ := pair_of_size h2 hx
        exact ih2 i x y hx hy (kw i y z hy hz)

/-- Lists. -/
def RL (n0 : Nat) (gl : List Nat) (xs ys : List Value) : Prop := xs.length = ys.length ∧ ∀ (i : Nat) (x y : Value), xs[i]? = some x → ys[i]? = some y → RN n0 gl x y

theorem RL.nil {gl : List Nat} : RL n0 gl [] [] := ⟨rfl, fun i x y h => by simp at h⟩
theorem RL.cons {gl : List Nat} {x y : Value} {xs ys : List Value} (h : RN n0 gl x y) (hs : RL n0 gl xs ys) : RL n0 gl (x :: xs) (y :: ys) := by
  refine ⟨by simp [hs.1], fun i a b ha hb => ?_⟩
  cases i with
  | zero => simp at ha hb; subst ha; subst hb; exact h
  | succ i => simp at ha hb; exact hs.2 i a b ha hb
theorem RL.of_in {gl : List Nat} {xs : List Value} (h : ∀ x ∈ xs, In n0 x) : RL n0 gl xs xs :=
  ⟨rfl, fun i x y hx hy => by rw [hx] at hy; cases hy; exact .of_in (h x (List.mem_of_getElem? hx))⟩
theorem RN.agg_of {gl : List Nat} {xs ys : List Value} (h : RL n0 gl xs ys) : RN n0 gl (.agg xs.toArray) (.agg ys.toArray) :=
  .agg _ _ (by simpa using h.1) fun i x y hx hy => h.2 i x y (by simpa using hx) (by simpa using hy)
theorem RN.tuple_of {gl : List Nat} {xs ys : List Value} (h : RL n0 gl xs ys) : RN n0 gl (.tuple xs.toArray) (.tuple ys.toArray) :=
  .tuple _ _ (by simpa using h.1) fun i x y hx hy => h.2 i x y (by simpa using hx) (by simpa using hy)

inductive RO' (n0 : Nat) (gl : List Nat) : AObj → AObj → Prop where
  | dead (o : AObj) : RO' n0 gl .dead o
  | cells {c c' : List Value} (e : Nat) : RL n0 gl c c' → RO' n0 gl (.cells c e) (.cells c' e)
  | ro {c c' : List Value} : RL n0 gl c c' → RO' n0 gl (.ro c) (.ro c')
  | iter (s : ByteArray) (i : Nat) : RO' n0 gl (.iter s i) (.iter s i)
  | deferred (t : Bool) : RO' n0 gl (.deferred t) (.deferred t)

/-- The blocks, in the order of their new numbers. -/
def ROs (n0 : Nat) (gl : List Nat) (L : List AObj) : List AObj → List Nat → Prop
  | [], [] => True
  | o' :: L', k :: r => (∃ o, L[k]? = some o ∧ RO' n0 gl o' o) ∧ ROs n0 gl L L' r
  | _, _ => False

theorem ROs.get {gl : List Nat} {L : List AObj} : ∀ (L' : List AObj) (r : List Nat), ROs n0 gl L L' r → L'.length = r.length ∧ ∀ (j k : Nat), r[j]? = some k → ∃ o o', L'[j]? = some o' ∧ L[k]? = some o ∧ RO' n0 gl o' o
  | [], [], _ => ⟨rfl, fun j k h => by simp at h⟩
  | o' :: L', k :: r, h => by
    obtain ⟨⟨o, h1, h2⟩, h3⟩ := h
    obtain ⟨g1, g2⟩ := ROs.get L' r h3
    refine ⟨by simp [g1], fun j k' hj => ?_⟩
    cases j with
    | zero => simp at hj; subst hj; exact ⟨o, o', rfl, h1, h2⟩
    | succ j => simp at hj; simpa using g2 j k' hj
  | [], _ :: _, h => h.elim
  | _ :: _, [], h => h.elim

def SlotsR (n0 : Nat) (gl : List Nat) (t : PT) : PT → Prop
  | [] => True
  | (i, v') :: r => (∃ v, look? t i = some v ∧ RN n0 gl v' v) ∧ SlotsR n0 gl t r

theorem SlotsR.get {gl : List Nat} {t : PT} : ∀ (t' : PT), SlotsR n0 gl t t' → ∀ i v', look? t' i = some v' → ∃ v, look? t i = some v ∧ RN n0 gl v' v
  | [], _, i, v', h => by cases h
  | (j, x) :: r, hs, i, v', h => by
    simp only [look?] at h
    by_cases hij : i = j
    · subst hij
      simp at h
      subst h
      exact hs.1
    · rw [beq_no hij] at h
      exact SlotsR.get r hs.2 i v' h

def keepRen (ρ : Ren) (n0 : Nat) (gl : List Nat) : Ren := ρ.take n0 ++ gl.map fun k => ρ.getD (n0 + k) ⟨0, 0, 0, 0⟩

theorem keepRen_base {ρ : Ren} {gl : List Nat} (h : n0 ≤ ρ.length) {b : Nat} (hb : b < n0) : (keepRen ρ n0 gl)[b]? = ρ[b]? := by
  unfold keepRen
  rw [List.getElem?_append_left (by simp; omega), List.getElem?_take_of_lt hb]

theorem keepRen_own {ρ : Ren} {gl : List Nat} (h : n0 ≤ ρ.length) {j k : Nat} (hj : gl[j]? = some k) (hk : n0 + k < ρ.length) : (keepRen ρ n0 gl)[n0 + j]? = ρ[n0 + k]? := by
  unfold keepRen
  have e : (ρ.take n0).length = n0 := by simp; omega
  rw [List.getElem?_append_right (by omega), e, show n0 + j - n0 = j from by omega]
  simp [hj, hk]

theorem Row.ren {ρ ρ' : Ren} {gl : List Nat} {p : Pl} {c c' : List Value} {w : World} (h : Row ρ p c w) (hB : ∀ b p, b < n0 → ρ[b]? = some p → ρ'[b]? = some p) (hL : ∀ j k p, gl[j]? = some k → ρ[n0 + k]? = some p → ρ'[n0 + j]? = some p)
    (hr : RL n0 gl c' c) : Row ρ' p c' w := by
  obtain ⟨cc, el, fz, h1, h2, h3, h4, h5⟩ := h
  refine ⟨cc, el, fz, h1, h2, by rw [hr.1]; exact h3, h4, fun i x hx => ?_⟩
  have hi : i < c.length := by rw [← hr.1]; exact (List.getElem?_eq_some_iff.1 hx).1
  obtain ⟨y, hy, hv⟩ := h5 i c[i] (by simp [hi])
  exact ⟨y, hy, (hr.2 i x c[i] hx (by simp [hi])).vr hB hL hv⟩

theorem HR.keep {ρ : Ren} {w0 w : World} {h0 : AHeap} {L L' : List AObj} (B : Base P h0) {gl : List Nat} (hn : gl.Nodup) (ho : ROs h0.n gl L L' gl) (H : HR P ρ w0 (ext h0 L) w) :
    HR P (keepRen ρ h0.n gl) w0 (ext h0 L') w ∧ (∀ b p, b < h0.n → ρ[b]? = some p → (keepRen ρ h0.n gl)[b]? = some p) ∧ (∀ j k p, gl[j]? = some k → ρ[h0.n + k]? = some p → (keepRen ρ h0.n gl)[h0.n + j]? = some p) := by
  have hlen : ρ.length = h0.n + L.length := by rw [H.len, ext_n]
  obtain ⟨hl', hget⟩ := ROs.get L' gl ho
  have hk : ∀ j k, gl[j]? = some k → h0.n + k < ρ.length := fun j k hj => by
    obtain ⟨o, o', _, h2, _⟩ := hget j k hj
    have := (List.getElem?_eq_some_iff.1 h2).1
    omega
  have hB : ∀ b p, b < h0.n → ρ[b]? = some p → (keepRen ρ h0.n gl)[b]? = some p := fun b p hb hp => by rw [keepRen_base (by omega) hb]; exact hp
  have hL : ∀ j k p, gl[j]? = some k → ρ[h0.n + k]? = some p → (keepRen ρ h0.n gl)[h0.n + j]? = some p := fun j k p hj hp => by rw [keepRen_own (by omega) hj (hk j k hj)]; exact hp
  have hle : (keepRen ρ h0.n gl).length = h0.n + gl.length := by simp [keepRen]; omega
  -- what stood there before
  have hold : ∀ b p, (keepRen ρ h0.n gl)[b]? = some p → (b < h0.n ∧ ρ[b]? = some p ∧ (ext h0 L').get b = h0.get b ∧ (ext h0 L).get b = h0.get b) ∨
      (∃ j k o o', b = h0.n + j ∧ gl[j]? = some k ∧ ρ[h0.n + k]? = some p ∧ (ext h0 L').get b = o' ∧ (ext h0 L).get (h0.n + k) = o ∧ RO' h0.n gl o' o) := by
    intro b p hp
    by_cases hb : b < h0.n
    · rw [keepRen_base (by omega) hb] at hp
      exact .inl ⟨hb, hp, ext_old hb, ext_old hb⟩
    · have hbl := ren_lt hp
      rw [hle] at hbl
      have hj : b - h0.n < gl.length := by omega
      have hjg : gl[b - h0.n]? = some gl[b - h0.n] := by simp [hj]
      obtain ⟨o, o', g1, g2, g3⟩ := hget _ _ hjg
      have hb' : b = h0.n + (b - h0.n) := by omega
      rw [hb', keepRen_own (by omega) hjg (hk _ _ hjg)] at hp
      refine .inr ⟨b - h0.n, gl[b - h0.n], o, o', hb', hjg, hp, ?_, ext_own g2, g3⟩
      have := ext_own (h := h0) g1
      rwa [← hb'] at this
  refine ⟨⟨?_, ?_, ?_, ?_, H.below, ?_⟩, hB, hL⟩
  · rw [hle, ext_n, hl']
  · intro b hb
    rw [ext_n] at hb
    rw [ext_get, if_neg (by omega)]
    exact B.gone b (by omega)
  · intro b p hp
    rcases hold b p hp with ⟨hb, hp', e1, e2⟩ | ⟨j, k, o, o', rfl, hj, hp', e1, e2, hr⟩
    · obtain ⟨g1, g2⟩ := H.obj b p hp'
      refine ⟨g1, ?_⟩
      rw [e2] at g2
      rw [e1]
      cases hob : h0.get b with
      | dead => trivial
      | cells c e =>
        rw [hob] at g2
        exact ⟨g2.1, g2.2.1, g2.2.2.ren hB hL (.of_in (B.cells b c (by rw [hob]; rfl)))⟩
      | ro c =>
        rw [hob] at g2
        exact ⟨g2.1, g2.2.ren hB hL (.of_in (B.cells b c (by rw [hob]; rfl)))⟩
      | iter s pos => rw [hob] at g2; exact g2
      | deferred t => rw [hob] at g2; exact g2
      | loop l =>
        rw [hob] at g2
        obtain ⟨k1, Lp, k2, k3⟩ := g2
        obtain ⟨l1, l2⟩ := B.loops b l hob
        obtain ⟨q, hq, hd⟩ := k3.defers
        exact ⟨k1, Lp, k2, ⟨k3.state, k3.pending, k3.fn, ⟨k3.tmps.1, fun i => (RN.of_in (l1 i)).vr hB hL (k3.tmps.2 i)⟩, k3.params, k3.assign, k3.body, q, hB _ _ l2 hq, hd⟩⟩
    · obtain ⟨g1, g2⟩ := H.obj _ p hp'
      refine ⟨g1, ?_⟩
      rw [e2] at g2
      rw [e1]
      cases hr with
      | dead o => trivial
      | cells e hc => exact ⟨g2.1, g2.2.1, g2.2.2.ren hB hL hc⟩
      | ro hc => exact ⟨g2.1, g2.2.ren hB hL hc⟩
      | iter s i => exact g2
      | deferred t => exact g2
  · have hlive : ∀ {o' o : AObj}, RO' h0.n gl o' o → live o' = true → live o = true := by
      intro o' o hr hl
      cases hr <;> first | exact hl | cases hl
    intro b c p q hbc hp hq l1 l2
    rcases hold b p hp with ⟨hb, hp', e1, e2⟩ | ⟨j, k, o, o', rfl, hj, hp', e1, e2, hr⟩ <;> rcases hold c q hq with ⟨hb', hq', e1', e2'⟩ | ⟨j', k', o2, o2', rfl, hj', hq', e1', e2', hr'⟩
    · exact H.inj b c p q hbc hp' hq' (by rw [e2, ← e1]; exact l1) (by rw [e2', ← e1']; exact l2)
    · exact H.inj b (h0.n + k') p q (by omega) hp' hq' (by rw [e2, ← e1]; exact l1) (by rw [e2']; exact hlive hr' (by rw [← e1']; exact l2))
    · exact H.inj (h0.n + k) c p q (by omega) hp' hq' (by rw [e2]; exact hlive hr (by rw [← e1]; exact l1)) (by rw [e2', ← e1']; exact l2)
    · have hne : k ≠ k' := by
        rintro rfl
        have h1 := List.getElem?_eq_some_iff.1 hj
        have h2 := List.getElem?_eq_some_iff.1 hj'
        obtain ⟨a1, a2⟩ := h1
        obtain ⟨b1, b2⟩ := h2
        have := (List.getElem_inj hn).1 (a2.trans b2.symm)
        omega
      exact H.inj (h0.n + k) (h0.n + k') p q (by omega) hp' hq' (by rw [e2]; exact hlive hr (by rw [← e1]; exact l1)) (by rw [e2']; exact hlive hr' (by rw [← e1']; exact l2))
  · intro g hg
    obtain ⟨p, hp, h1, h2⟩ := H.glob g hg
    exact ⟨p, hB g p (by have := B.glob; omega) hp, h1, h2⟩

/-- What is kept: blocks, renumbered, and slots. -/
theorem Ent.keep {h0 : AHeap} {L L' : List AObj} {t t' : PT} (B : Base P h0) (gl : List Nat) (hn : gl.Nodup) (ho : ROs h0.n gl L L' gl) (ht : SlotsR h0.n gl t t') :
    Ent P h0.n n ⟨t, ext h0 L, []⟩ ⟨t', ext h0 L', []⟩ := by
  intro ρ w0 w a hs
  obtain ⟨H', hB, hL⟩ := HR.keep B hn ho hs.h
  refine ⟨_, hB, ⟨hs.t.size, fun i v' hv' => ?_⟩, H', ?_⟩
  · obtain ⟨v, h1, h2⟩ := SlotsR.get t' ht i v' hv'
    exact h2.vr hB hL (hs.t.known i v h1)
  · have := hs.d
    generalize a.defers = x at this
    cases this
    exact .nil

end Go.Am
