/-
  The logic: heaps as a base and blocks of one's own; blocks that are no longer used are dropped.
-/
import Derived.Test.YtkiognclopmciaaDoorAmLogic2
namespace Go.Am
open Go Go.RowKit

variable {P : Program} {n0 n : Nat} {Q : AEx → AS → Prop} {s : AS}

/-! Values that name no block from n on. -/

inductive FnIn (n : Nat) : Fn → Prop where
  | func (f : FuncId) : FnIn n (.func f)
  | yield {l : Nat} : l < n → FnIn n (.yield l)

inductive In (n : Nat) : Value → Prop where
  | bool (b : Bool) : In n (.bool b)
  | int (k : IntKind) (i : Int) : In n (.int k i)
  | string (s : ByteArray) : In n (.string s)
  | nilFunc : In n .nilFunc
  | nilIface : In n .nilIface
  | pnil : In n (.pointer none)
  | ptr {b : Nat} (i : Nat) : b < n → In n (.pointer (some ⟨b, i, none⟩))
  | snil (k c : Nat) : In n (.slice none k c)
  | slice {b : Nat} (i k c : Nat) : b < n → In n (.slice (some ⟨b, i, none⟩) k c)
  | agg (xs : Array Value) : (∀ (i : Nat) (x : Value), xs[i]? = some x → In n x) → In n (.agg xs)
  | tuple (xs : Array Value) : (∀ (i : Nat) (x : Value), xs[i]? = some x → In n x) → In n (.tuple xs)
  | func (f : Fn) (xs us : Array Value) : FnIn n f → (∀ (i : Nat) (x : Value), xs[i]? = some x → In n x) → (∀ (i : Nat) (x : Value), us[i]? = some x → In n x) → In n (.func f xs us)

theorem ren_lt {ρ : Ren} {b : Nat} {p : Pl} (h : ρ[b]? = some p) : b < ρ.length := (List.getElem?_eq_some_iff.1 h).1

theorem pair_of_size {xs ys : Array Value} (h : xs.size = ys.size) {i : Nat} {x : Value} (hx : xs[i]? = some x) : ∃ y, ys[i]? = some y := by
  have : i < ys.size := by
    rw [← h]; exact (Array.getElem?_eq_some_iff.1 hx).1
  exact ⟨ys[i], by simp [this]⟩

theorem VR.inn {ρ : Ren} {x y : Value} (h : VR ρ x y) : In ρ.length x := by
  induction h with
  | bool b => exact .bool b
  | int k i => exact .int k i
  | string s => exact .string s
  | nilFunc => exact .nilFunc
  | nilIface => exact .nilIface
  | pnil => exact .pnil
  | ptr i h => exact .ptr i (ren_lt h)
  | snil k c h => exact .snil k c
  | slice i k c h hc => exact .slice i k c (ren_lt h)
  | «open» i k c h hn hz => exact .slice i k big (ren_lt h)
  | agg xs ys h _ ih => exact .agg xs fun i x hx => let ⟨y, hy⟩ := pair_of_size h hx; ih i x y hx hy
  | tuple xs ys h _ ih => exact .tuple xs fun i x hx => let ⟨y, hy⟩ := pair_of_size h hx; ih i x y hx hy
  | func f g xs ys us vs hf h1 _ h2 _ ih1 ih2 =>
    refine .func f xs us ?_ (fun i x hx => let ⟨y, hy⟩ := pair_of_size h1 hx; ih1 i x y hx hy) (fun i x hx => let ⟨y, hy⟩ := pair_of_size h2 hx; ih2 i x y hx hy)
    cases hf with
    | func f => exact .func f
    | yield h => exact .yield (ren_lt h)

theorem Sub.back {ρ ρ' : Ren} (hs : Sub ρ ρ') {b : Nat} {p : Pl} (hb : b < ρ.length) (hp : ρ'[b]? = some p) : ρ[b]? = some p := by
  have h1 : ρ[b]? = some ρ[b] := by simp [hb]
  rw [hs b _ h1] at hp
  rw [h1, hp]

theorem VR.back {ρ ρ' : Ren} (hs : Sub ρ ρ') {x y : Value} (h : VR ρ' x y) (hi : In ρ.length x) : VR ρ x y := by
  induction h with
  | bool b => exact .bool b
  | int k i => exact .int k i
  | string s => exact .string s
  | nilFunc => exact .nilFunc
  | nilIface => exact .nilIface
  | pnil => exact .pnil
  | ptr i h => cases hi with | ptr _ hb => exact .ptr i (hs.back hb h)
  | snil k c h => exact .snil k c h
  | slice i k c h hc => cases hi with | slice _ _ _ hb => exact .slice i k c (hs.back hb h) hc
  | «open» i k c h hn hz => cases hi with | slice _ _ _ hb => exact .open i k c (hs.back hb h) hn hz
  | agg xs ys h _ ih => cases hi with | agg _ hx => exact .agg xs ys h fun i x y h1 h2 => ih i x y h1 h2 (hx i x h1)
  | tuple xs ys h _ ih => cases hi with | tuple _ hx => exact .tuple xs ys h fun i x y h1 h2 => ih i x y h1 h2 (hx i x h1)
  | func f g xs ys us vs hf h1 _ h2 _ ih1 ih2 =>
    cases hi with
    | func _ _ _ hfi hx hu =>
      refine .func f g xs ys us vs ?_ h1 (fun i x y p q => ih1 i x y p q (hx i x p)) h2 (fun i x y p q => ih2 i x y p q (hu i x p))
      cases hf with
      | func f => exact .func f
      | yield h => cases hfi with | yield hb => exact .yield (hs.back hb h)

/-! Bases. -/

structure Base (P : Program) (h : AHeap) : Prop where
  gone : ∀ b, h.n ≤ b → h.get b = .dead
  cells : ∀ (b : Nat) (c : List Value), (h.get b).row = some c → ∀ x ∈ c, In h.n x
  loops : ∀ (b : Nat) (l : ALoop), h.get b = .loop l → (∀ i, In h.n (l.tmps.get i)) ∧ l.defers < h.n
  glob : P.globals.size ≤ h.n

theorem AObj.row_cells {o : AObj} {c : List Value} (h : o.row = some c) : (∃ e, o = .cells c e) ∨ o = .ro c := by
  cases o <;> simp [AObj.row] at h <;> subst h <;> simp

theorem Row.inn {ρ : Ren} {p : Pl} {c : List Value} {w : World} (h : Row ρ p c w) : ∀ x ∈ c, In ρ.length x := by
  obtain ⟨cc, el, fz, _, _, _, _, h5⟩ := h
  intro x hx
  obtain ⟨i, hi, rfl⟩ := List.getElem_of_mem hx
  obtain ⟨y, _, hv⟩ := h5 i c[i] (by simp [hi])
  exact hv.inn

theorem HR.base {ρ : Ren} {w0 w : World} {h : AHeap} (H : HR P ρ w0 h w) : Base P h where
  gone := H.gone
  cells := fun b c hc x hx => by
    by_cases hb : h.n ≤ b
    · rw [H.gone b hb] at hc; cases hc
    · have hl : b < ρ.length := by rw [H.len]; omega
      obtain ⟨_, h2⟩ := H.obj b ρ[b] (by simp [hl])
      rw [← H.len]
      rcases AObj.row_cells hc with ⟨e, he⟩ | he <;> rw [he] at h2
      · exact h2.2.2.inn x hx
      · exact h2.2.inn x hx
  loops := fun b l hl => by
    by_cases hb : h.n ≤ b
    · rw [H.gone b hb] at hl; cases hl
    · have hlt : b < ρ.length := by rw [H.len]; omega
      obtain ⟨_, h2⟩ := H.obj b ρ[b] (by simp [hlt])
      rw [hl] at h2
      obtain ⟨_, L, _, hL⟩ := h2
      rw [← H.len]
      exact ⟨fun i => (hL.tmps.2 i).inn, let ⟨p, hp, _⟩ := hL.defers; ren_lt hp⟩
  glob := by
    rcases Nat.eq_zero_or_pos P.globals.size with h0 | h0
    · omega
    · obtain ⟨p, hp, _⟩ := H.glob (P.globals.size - 1) (by omega)
      have := H.lt hp
      omega

theorem Row.back {ρ ρ' : Ren} (hs : Sub ρ ρ') {p : Pl} {c : List Value} {w : World} (h : Row ρ' p c w) (hi : ∀ x ∈ c, In ρ.length x) : Row ρ p c w := by
  obtain ⟨cc, el, fz, h1, h2, h3, h4, h5⟩ := h
  exact ⟨cc, el, fz, h1, h2, h3, h4, fun i x hx => let ⟨y, hy, hv⟩ := h5 i x hx; ⟨y, hy, hv.back hs (hi x (List.mem_of_getElem? hx))⟩⟩

/-- What lies behind the old blocks is dropped. -/
theorem HR.restrict {ρ ρ1 : Ren} {w0 w w1 : World} {h h1 : AHeap} (H0 : HR P ρ w0 h w) (H1 : HR P ρ1 w0 h1 w1) (hs : Sub ρ ρ1) (hag : ∀ b, b < h.n → h1.get b = h.get b) : HR P ρ w0 h w1 where
  len := H0.len
  gone := H0.gone
  obj := fun b p hp => by
    have hb := H0.lt hp
    obtain ⟨g1, g2⟩ := H1.obj b p (hs b p hp)
    refine ⟨g1, ?_⟩
    rw [hag b hb] at g2
    have B := H0.base
    cases ho : h.get b with
    | dead => trivial
    | cells c e =>
      rw [ho] at g2
      exact ⟨g2.1, g2.2.1, g2.2.2.back hs (by rw [H0.len]; exact B.cells b c (by rw [ho]; rfl))⟩
    | ro c =>
      rw [ho] at g2
      exact ⟨g2.1, g2.2.back hs (by rw [H0.len]; exact B.cells b c (by rw [ho]; rfl))⟩
    | iter s pos => rw [ho] at g2; exact g2
    | deferred t => rw [ho] at g2; exact g2
    | loop l =>
      rw [ho] at g2
      obtain ⟨k1, L, k2, k3⟩ := g2
      obtain ⟨l1, l2⟩ := B.loops b l ho
      obtain ⟨q, hq, hd⟩ := k3.defers
      exact ⟨k1, L, k2, ⟨k3.state, k3.pending, k3.fn, ⟨k3.tmps.1, fun i => (k3.tmps.2 i).back hs (by rw [H0.len]; exact l1 i)⟩, k3.params, k3.assign, k3.body,
        q, hs.back (by rw [H0.len]; exact l2) hq, hd⟩⟩
  inj := fun b c p q hbc hp hq l1 l2 => H1.inj b c p q hbc (hs b p hp) (hs c q hq) (by rw [hag b (H0.lt hp)]; exact l1) (by rw [hag c (H0.lt hq)]; exact l2)
  below := H1.below
  glob := H0.glob

/-! Contracts. -/

/-- It yields one value, and leaves the heap as it is. -/
def Pure (v : Value) (h : AHeap) : Value → AHeap → Prop := fun v' h' => v' = v ∧ h' = h

theorem ACalls.of_base {f : FuncId} {args : List Value} {h : AHeap} {R : Value → AHeap → Prop} (H : Base P h → ACalls P f args h R) : ACalls P f args h R :=
  fun ρ w0 w args' Hh hl => H Hh.base ρ w0 w args' Hh hl

theorem ACalls.pure {f : FuncId} {args : List Value} {h : AHeap} {R : Value → AHeap → Prop} (H : ACalls P f args h R) (hv : ∀ v h', R v h' → In h.n v ∧ ∀ b, b < h.n → h'.get b = h.get b) :
    ACalls P f args h (fun v h' => h' = h ∧ ∃ h1, R v h1) := by
  intro ρ w0 w args' Hh hl
  refine (H ρ w0 w args' Hh hl).mono ?_
  rintro e w' ⟨ρ', v, v', h', r, he, hs, H', hvr⟩
  obtain ⟨i1, i2⟩ := hv v h' r
  exact ⟨ρ, v, v', h, ⟨rfl, h', r⟩, he, .refl ρ, Hh.restrict H' hs i2, hvr.back hs (by rw [Hh.len]; exact i1)⟩

theorem ACalls.pure' {f : FuncId} {args : List Value} {h : AHeap} {x : Value} (H : ACalls P f args h (fun v h' => v = x ∧ ∀ b, b < h.n → h'.get b = h.get b)) (hx : In h.n x) : ACalls P f args h (Pure x h) :=
  (H.pure (fun v h' r => ⟨by rw [r.1]; exact hx, r.2⟩)).mono fun _ _ ⟨a, _, b, _⟩ => ⟨b, a⟩

/-! Blocks of one's own. -/

def ext (h : AHeap) : List AObj → AHeap
  | [] => h
  | o :: L => ext (h.push o) L

theorem ext_n : ∀ (L : List AObj) (h : AHeap), (ext h L).n = h.n + L.length
  | [], h => rfl
  | o :: L, h => by rw [ext, ext_n L]; simp; omega

theorem ext_get : ∀ (L : List AObj) (h : AHeap) (b : Nat), (ext h L).get b = if h.n ≤ b ∧ b < h.n + L.length then L.getD (b - h.n) .dead else h.get b
  | [], h, b => by
    rw [ext, if_neg]
    simp
  | o :: L, h, b => by
    rw [ext, ext_get L]
    simp only [AHeap.n_push, AHeap.get_push, List.length_cons]
    by_cases hb : b = h.n
    · subst hb
      rw [if_neg (by omega), if_pos rfl, if_pos (by omega)]
      simp
    · rw [if_neg hb]
      by_cases h1 : h.n ≤ b ∧ b < h.n + (L.length + 1)
      · rw [if_pos (by omega), if_pos h1, show b - h.n = (b - (h.n + 1)) + 1 from by omega, List.getD_cons_succ]
      · rw [if_neg (by omega), if_neg h1]

theorem ext_push : ∀ (L : List AObj) (h : AHeap) (o : AObj), (ext h L).push o = ext h (L ++ [o])
  | [], h, o => rfl
  | x :: L, h, o => by simp only [ext, List.cons_append]; exact ext_push L _ o

theorem ext_own {L : List AObj} {h : AHeap} {j : Nat} {o : AObj} (hj : L[j]? = some o) : (ext h L).get (h.n + j) = o := by
  have hl := (List.getElem?_eq_some_iff.1 hj).1
  rw [ext_get, if_pos (by omega), show h.n + j - h.n = j from by omega]
  simp [hj]

theorem ext_old {L : List AObj} {h : AHeap} {b : Nat} (hb : b < h.n) : (ext h L).get b = h.get b := by
  rw [ext_get, if_neg (by omega)]

/-- Heaps with the same blocks are as good as each other. -/
theorem HR.same {ρ : Ren} {w0 w : World} {h h' : AHeap} (H : HR P ρ w0 h w) (hn : h'.n = h.n) (hg : ∀ b, h'.get b = h.get b) : HR P ρ w0 h' w where
  len := by rw [H.len, hn]
  gone := fun b hb => by rw [hg]; exact H.gone b (by omega)
  obj := fun b p hp => by rw [hg]; exact H.obj b p hp
  inj := fun b c p q h1 h2 h3 h4 h5 => H.inj b c p q h1 h2 h3 (by rw [← hg]; exact h4) (by rw [← hg]; exact h5)
  below := H.below
  glob := H.glob

end Go.Am
