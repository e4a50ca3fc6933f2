/-
  The logic: loops whose state is some values; the rest of the slots stays as it is.
-/
import Derived.Test.YtkiognclopmciaaDoorAmRules3
namespace Go.Am
open Go Go.RowKit

variable {P : Program} {n0 n : Nat} {Q : AEx → AS → Prop} {h h0 : AHeap} {t : PT} {L : List AObj}

def SlotsS (t : PT) : PT → Prop
  | [] => True
  | (i, v) :: r => look? t i = some v ∧ SlotsS t r

theorem SlotsS.get : ∀ (t' : PT), SlotsS t t' → ∀ i v, look? t' i = some v → look? t i = some v
  | [], _, i, v, h => by cases h
  | (j, x) :: r, hs, i, v, h => by
    simp only [look?] at h
    by_cases hij : i = j
    · subst hij
      simp at h
      subst h
      exact hs.1
    · rw [beq_no hij] at h
      exact SlotsS.get r hs.2 i v h

theorem Ent.sub {t' : PT} {d : List Nat} (hs : SlotsS t t') : Ent P n0 n ⟨t, h, d⟩ ⟨t', h, d⟩ := .slots (SlotsS.get t' hs)

theorem Ent.refl {s : AS} : Ent P n0 n s s := fun ρ _ _ _ hs => ⟨ρ, .refl _ _, hs⟩

theorem Ent.trans {s s' s2 : AS} (h : Ent P n0 n s s') (k : Ent P n0 n s' s2) : Ent P n0 n s s2 := fun ρ w0 w a hs =>
  let ⟨ρ1, g1, r1⟩ := h ρ w0 w a hs
  let ⟨ρ2, g2, r2⟩ := k ρ1 w0 w a r1
  ⟨ρ2, g1.trans g2, r2⟩

/-- Slots are forgotten ahead of a piece of code. -/
theorem AW.forget {c : Code} (t' : PT) {d : List Nat} (hs : SlotsS t t') (H : AW P n0 n c Q ⟨t', h, d⟩) : AW P n0 n c Q ⟨t, h, d⟩ := .ent (.sub hs) H

theorem AW.loopE {c : Code} {s : AS} (I : Nat → AS → Prop) (m : Nat) (h0 : I m s) (round : ∀ m s, I m s → AW P n0 n c (AEx.then (fun s1 => ∃ s' m', Ent P n0 n s1 s' ∧ m' < m ∧ I m' s') Q) s) : AW P n0 n (.loop c) Q s := by
  refine AW.loop I m h0 fun m s hI => ?_
  refine AW.entPost ((round m s hI).mono fun e s1 hq => ?_)
  cases e with
  | normal => obtain ⟨s', m', he, hm, hI'⟩ := hq; exact ⟨s', he, m', hm, hI'⟩
  | exit id => exact ⟨s1, .refl, hq⟩
  | goto l => exact ⟨s1, .refl, hq⟩
  | ret => exact ⟨s1, .refl, hq⟩

/-- A loop that leaves the heap alone: its values x, the slots that hang on them, the others. -/
theorem AW.loopH {c : Code} {α : Type} {d : List Nat} (t0 : PT) (x0 : α) (tv : α → PT) (inv : α → Prop) (meas : α → Nat) (hs : SlotsS t (tv x0 ++ t0)) (hi : inv x0)
    (round : ∀ x, inv x → AW P n0 n c (AEx.then (fun s1 => ∃ x', meas x' < meas x ∧ inv x' ∧ Ent P n0 n s1 ⟨tv x' ++ t0, h, d⟩) Q) ⟨tv x ++ t0, h, d⟩) : AW P n0 n (.loop c) Q ⟨t, h, d⟩ := by
  refine AW.ent (.sub hs) ?_
  refine AW.loopE (fun m s => ∃ x, m = meas x ∧ s = ⟨tv x ++ t0, h, d⟩ ∧ inv x) (meas x0) ⟨x0, rfl, rfl, hi⟩ ?_
  rintro m s ⟨x, rfl, rfl, hx⟩
  refine (round x hx).mono fun e s1 hq => ?_
  cases e with
  | normal => obtain ⟨x', h1, h2, h3⟩ := hq; exact ⟨_, meas x', h3, h1, x', rfl, rfl, h2⟩
  | exit id => exact hq
  | goto l => exact hq
  | ret => exact hq

/-- A loop whose blocks hang on its values, too. -/
theorem AW.loopL {c : Code} {α : Type} (t0 : PT) (x0 : α) (tv : α → PT) (Lf : α → List AObj) (inv : α → Prop) (meas : α → Nat) (he : Ent P n0 n ⟨t, ext h0 L, []⟩ ⟨tv x0 ++ t0, ext h0 (Lf x0), []⟩) (hi : inv x0)
    (round : ∀ x, inv x → AW P n0 n c (AEx.then (fun s1 => ∃ x', meas x' < meas x ∧ inv x' ∧ Ent P n0 n s1 ⟨tv x' ++ t0, ext h0 (Lf x'), []⟩) Q) ⟨tv x ++ t0, ext h0 (Lf x), []⟩) : AW P n0 n (.loop c) Q ⟨t, ext h0 L, []⟩ := by
  refine AW.ent he ?_
  refine AW.loopE (fun m s => ∃ x, m = meas x ∧ s = ⟨tv x ++ t0, ext h0 (Lf x), []⟩ ∧ inv x) (meas x0) ⟨x0, rfl, rfl, hi⟩ ?_
  rintro m s ⟨x, rfl, rfl, hx⟩
  refine (round x hx).mono fun e s1 hq => ?_
  cases e with
  | normal => obtain ⟨x', h1, h2, h3⟩ := hq; exact ⟨_, meas x', h3, h1, x', rfl, rfl, h2⟩
  | exit id => exact hq
  | goto l => exact hq
  | ret => exact hq

theorem RN.of_in_range {gl : List Nat} {k : Nat} {v : Value} (hg : ∀ j, j < k → gl[j]? = some j) (h : In (n0 + k) v) : RN n0 gl v v := by
  have key : ∀ b, b < n0 + k → (b < n0) ∨ (∃ j, b = n0 + j ∧ gl[j]? = some j) := fun b hb => by
    by_cases hb0 : b < n0
    · exact .inl hb0
    · exact .inr ⟨b - n0, by omega, hg _ (by omega)⟩
  induction h with
  | bool b => exact .bool b
  | int k i => exact .int k i
  | string s => exact .string s
  | nilFunc => exact .nilFunc
  | nilIface => exact .nilIface
  | pnil => exact .pnil
  | ptr i h =>
    rcases key _ h with h | ⟨j, rfl, hj⟩
    · exact .ptrB i h
    · exact .ptrL i hj
  | snil k c => exact .snil k c
  | slice i m c h =>
    rcases key _ h with h | ⟨j, rfl, hj⟩
    · exact .sliceB i m c h
    · exact .sliceL i m c hj
  | agg xs _ ih => exact .agg xs xs rfl fun i x y h1 h2 => (by rw [h1] at h2; cases h2; exact ih i x h1)
  | tuple xs _ ih => exact .tuple xs xs rfl fun i x y h1 h2 => (by rw [h1] at h2; cases h2; exact ih i x h1)
  | func f xs us hf _ _ ih1 ih2 =>
    refine .func f f xs xs us us ?_ rfl (fun i x y h1 h2 => by rw [h1] at h2; cases h2; exact ih1 i x h1) rfl (fun i x y h1 h2 => by rw [h1] at h2; cases h2; exact ih2 i x h1)
    cases hf with
    | func f => exact .func f
    | yield hl =>
      rcases key _ hl with h | ⟨j, rfl, hj⟩
      · exact .yieldB h
      · exact .yieldL hj

def SlotsIn (n : Nat) : PT → Prop
  | [] => True
  | (_, v) :: r => In n v ∧ SlotsIn n r

def ObjIn (n : Nat) : AObj → Prop
  | .cells c _ => ∀ x ∈ c, In n x
  | .ro c => ∀ x ∈ c, In n x
  | .dead => True
  | .iter _ _ => True
  | .deferred _ => True
  | .loop _ => False

def ObjsIn (n : Nat) : List AObj → Prop
  | [] => True
  | o :: r => ObjIn n o ∧ ObjsIn n r

theorem SlotsIn.get : ∀ (t : PT), SlotsIn n t → ∀ i v, look? t i = some v → In n v
  | [], _, i, v, h => by cases h
  | (j, x) :: r, hs, i, v, h => by
    simp only [look?] at h
    by_cases hij : i = j
    · subst hij
      simp at h
      subst h
      exact hs.1
    · rw [beq_no hij] at h
      exact SlotsIn.get r hs.2 i v h

theorem ObjsIn.get : ∀ (L : List AObj), ObjsIn n L → ∀ (j : Nat) o, L[j]? = some o → ObjIn n o
  | [], _, j, o, h => by simp at h
  | x :: L, hs, 0, o, h => by simp at h; subst h; exact hs.1
  | x :: L, hs, j + 1, o, h => by simp at h; exact ObjsIn.get L hs.2 j o h

theorem ROs.of_range {k : Nat} {gl : List Nat} (hg : ∀ j, j < k → gl[j]? = some j) : ∀ (L' L G : List AObj) (m : Nat), ObjsIn (n0 + k) L' → m + L'.length = k → L = G ++ L' → G.length = m → ∀ M, ROs n0 gl (L ++ M) L' (List.range' m L'.length)
  | [], L, G, m, _, _, _, _, M => trivial
  | o :: L', L, G, m, ho, hk, hL, hG, M => by
    refine ⟨⟨o, ?_, ?_⟩, ?_⟩
    · rw [hL, List.append_assoc, List.getElem?_append_right (by omega), hG]
      simp
    · have h1 := ho.1
      cases o with
      | cells c e => exact .cells e ⟨rfl, fun i x y hx hy => by rw [hx] at hy; cases hy; exact RN.of_in_range hg (h1 x (List.mem_of_getElem? hx))⟩
      | ro c => exact .ro ⟨rfl, fun i x y hx hy => by rw [hx] at hy; cases hy; exact RN.of_in_range hg (h1 x (List.mem_of_getElem? hx))⟩
      | dead => exact .dead _
      | iter s p => exact .iter s p
      | deferred t => exact .deferred t
      | loop l => exact h1.elim
    · exact ROs.of_range hg L' L (G ++ [o]) (m + 1) ho.2 (by simp at hk; omega) (by rw [hL]; simp) (by simp [hG]) M

/-- The last blocks are dropped, and slots forgotten. -/
theorem Ent.trunc {t' : PT} {L M : List AObj} (B : Base P h0) (hs : SlotsS t t') (hi : SlotsIn (h0.n + L.length) t') (ho : ObjsIn (h0.n + L.length) L) : Ent P h0.n n ⟨t, ext h0 (L ++ M), []⟩ ⟨t', ext h0 L, []⟩ := by
  have hg : ∀ j, j < L.length → (List.range' 0 L.length)[j]? = some j := fun j hj => by simp [hj]
  refine Ent.keep B (List.range' 0 L.length) List.nodup_range' (ROs.of_range hg L L [] 0 ho (by omega) rfl rfl M) ?_
  have key : ∀ r : PT, SlotsS t r → SlotsIn (h0.n + L.length) r → SlotsR h0.n (List.range' 0 L.length) t r := by
    intro r
    induction r with
    | nil => intros; trivial
    | cons x r ih => exact fun a b => ⟨⟨x.2, a.1, RN.of_in_range hg b.1⟩, ih a.2 b.2⟩
  exact key t' hs hi

end Go.Am
