/-
  The abstract machine: the whole of a region that draws its order.
-/
import Derived.Test.YtkiognclopmciaaDoorAmDraw2
namespace Go.Am
open Go Go.RowKit

variable {P : Program} {w0 : World} {ops : Array Oper} {T : Nat → Tmps} {Hh : Nat → AHeap} {V : Nat → Value}

theorem countP_less {p q : Nat → Bool} {i : Nat} (hpi : p i = true) (hqi : q i = false) (hpq : ∀ j, q j = true → p j = true) : ∀ l : List Nat, i ∈ l → l.countP q < l.countP p
  | [], h => by cases h
  | j :: l, h => by
    have hle : ∀ l : List Nat, l.countP q ≤ l.countP p := fun l => List.countP_mono_left (fun j _ hj => hpq j hj)
    simp only [List.countP_cons]
    by_cases hji : j = i
    · subst hji
      have := hle l
      simp [hpi, hqi]
      omega
    · have hmem : i ∈ l := by
        cases h with
        | head => exact absurd rfl hji
        | tail _ h => exact h
      have := countP_less hpi hqi hpq l hmem
      by_cases hq : q j = true
      · simp [hq, hpq j hq]; exact this
      · simp only [hq]
        by_cases hp : p j = true <;> simp [hp] <;> omega

def left (n : Nat) (listed : Array Bool) : Nat := (List.range n).countP fun i => !listed.getD i false

theorem go_sim (R : ROk ops) (C : Canon P ops T Hh V) (b : Frame) (todo : List Item) (cs : List Frame) :
    ∀ (fuel t : Nat) (ρ : Ren) (listed : Array Bool) (a : Act) (w : World), DInv P ρ w0 ops T Hh V listed a w → left ops.size listed ≤ fuel →
    ∃ ρ' a' w' listed', Sub ρ ρ' ∧ a'.defers = a.defers ∧ DInv P ρ' w0 ops T Hh V listed' a' w' ∧ (∀ i, i < ops.size → listed'.getD i false = true) ∧
      Steps P (lone (b.atR a (.inRegion ops (Region.linearise.go .any ops fuel t listed []) :: todo)) cs w) (lone (b.atR a' (.inRegion ops [] :: todo)) cs w') := by
  intro fuel
  induction fuel with
  | zero =>
    intro t ρ listed a w D hl
    refine ⟨ρ, a, w, listed, Sub.refl ρ, rfl, D, fun i hi => ?_, Steps.refl _ _⟩
    cases hli : listed.getD i false with
    | true => rfl
    | false =>
      have : 0 < left ops.size listed := List.countP_pos_iff.2 ⟨i, List.mem_range.2 hi, by rw [hli]; rfl⟩
      omega
  | succ fuel ih =>
    intro t ρ listed a w D hl
    simp only [Region.linearise.go]
    change ∃ ρ' a' w' listed', Sub ρ ρ' ∧ a'.defers = a.defers ∧ DInv P ρ' w0 ops T Hh V listed' a' w' ∧ (∀ i, i < ops.size → listed'.getD i false = true) ∧
      Steps P (lone (b.atR a (.inRegion ops (match (Region.ready .any ops listed)[t % (Region.ready .any ops listed).length]? with
        | some i => Region.linearise.go .any ops fuel (t / (Region.ready .any ops listed).length) (listed.setIfInBounds i true) [i]
        | none => [].reverse) :: todo)) cs w) (lone (b.atR a' (.inRegion ops [] :: todo)) cs w')
    cases hr : (Region.ready .any ops listed)[t % (Region.ready .any ops listed).length]? with
    | none =>
      have hnil : Region.ready .any ops listed = [] := by
        cases he : Region.ready .any ops listed with
        | nil => rfl
        | cons x xs =>
          rw [he] at hr
          have hlt : t % (x :: xs).length < (x :: xs).length := Nat.mod_lt _ (by simp)
          rw [List.getElem?_eq_getElem hlt] at hr
          cases hr
      refine ⟨ρ, a, w, listed, Sub.refl ρ, rfl, D, ?_, Steps.refl _ _⟩
      -- what is left, the first of it, would be ready
      intro i
      induction i using Nat.strongRecOn with
      | _ i ihi =>
        intro hi
        cases hli : listed.getD i false with
        | true => rfl
        | false =>
          exfalso
          have ho : ops[i]? = some ops[i] := Array.getElem?_eq_getElem hi
          have hmem : i ∈ Region.ready .any ops listed := by
            refine mem_ready.2 ⟨?_, ops[i], ho, fun e he hb => ?_⟩
            · have : i < listed.size := by rw [D.size]; exact hi
              simp only [Array.getD_eq_getD_getElem?, Array.getElem?_eq_getElem this] at hli ⊢
              exact hli
            · have := R.lt i _ ho e (by simpa using he) hb
              exact ihi e.on this (by omega)
          rw [hnil] at hmem
          cases hmem
    | some i =>
      have hmem : i ∈ Region.ready .any ops listed := List.mem_of_getElem? hr
      obtain ⟨hun, o, ho, hall⟩ := mem_ready.1 hmem
      have hi : i < ops.size := (Array.getElem?_eq_some_iff.1 ho).1
      have hun' : listed.getD i false = false := by
        rcases Nat.lt_or_ge i listed.size with h' | h'
        · simp [h'] at hun ⊢; exact hun
        · simp [Array.getElem?_eq_none h'] at hun
      simp only []
      rw [linearise_go_acc, List.reverse_singleton, List.singleton_append]
      obtain ⟨ρ1, a1, w1, hs1, hd1, D1, hst1⟩ := D.step R C ho hun' (fun e he hb => hall e (by simpa using he) hb) b (Region.linearise.go .any ops fuel (t / (Region.ready .any ops listed).length) (listed.setIfInBounds i true) []) todo cs
      have hless : left ops.size (listed.setIfInBounds i true) < left ops.size listed := by
        refine countP_less (i := i) (by rw [hun']; rfl) ?_ (fun j hj => ?_) _ (List.mem_range.2 hi)
        · rw [getD_set (by rw [D.size]; exact hi), if_pos rfl]; rfl
        · rw [getD_set (by rw [D.size]; exact hi)] at hj
          split at hj
          · cases hj
          · exact hj
      obtain ⟨ρ2, a2, w2, l2, hs2, hd2, D2, hall2, hst2⟩ := ih (t / (Region.ready .any ops listed).length) ρ1 (listed.setIfInBounds i true) a1 w1 D1 (by omega)
      exact ⟨ρ2, a2, w2, l2, hs1.trans hs2, hd2.trans hd1, D2, hall2, hst1.trans hst2⟩

theorem draw_sim (hok : regionOk ops = true) (hm : P.follows .mixedOrders = true) {ρ : Ren} {h h' : AHeap} {w : World} {tmps tmps' : Tmps} {a : Act} (hc : canon P ops ops.toList tmps h = some (tmps', h'))
    (HT : TR ρ tmps a.tmps) (H : HR P ρ w0 h w) (id : Nat) (b : Frame) (todo : List Item) (cs : List Frame) :
    ∃ ρ' a' w', Sub ρ ρ' ∧ TR ρ' tmps' a'.tmps ∧ a'.defers = a.defers ∧ HR P ρ' w0 h' w' ∧
      Steps P (lone (b.atR a (.code (.region id ops true) :: todo)) cs w) (lone (b.atR a' todo) cs w') := by
  obtain ⟨T, Hh, V, e1, e2, e3, e4, e5⟩ := canon_states ops ops.toList 0 tmps tmps' h h' hc (by simp) (by omega)
  have C : Canon P ops T Hh V := ⟨fun k o ho => (e5 k o (by omega) ho).1, fun k o ho => (e5 k o (by omega) ho).2.1, fun k o ho => (e5 k o (by omega) ho).2.2⟩
  have hno : ∀ k, (Array.replicate ops.size false).getD k false = false := fun k => by
    rcases Nat.lt_or_ge k ops.size with h | h <;> simp [h]
  have D : DInv P ρ w0 ops T Hh V (Array.replicate ops.size false) a { w with drawn := w.drawn + 1 } :=
    ⟨by simp, fun j o _ hl => (by rw [hno] at hl; cases hl), by rw [e1]; exact HT.1, fun j o t _ hl => (by rw [hno] at hl; cases hl), fun t _ => (by rw [e1]; exact HT.2 t),
      0, by omega, by rw [e2]; exact H.drew _, fun k o _ _ => by rw [hno]; simp⟩
  have hl : left ops.size (Array.replicate ops.size false) ≤ ops.size := by
    refine Nat.le_trans List.countP_le_length ?_
    simp
  obtain ⟨ρ', a', w', l', hs, hd, D', hall, hst⟩ := go_sim (regionOk_spec hok) C b todo cs ops.size (w.tape w.drawn (.order b.fn id)) ρ _ a _ D hl
  refine ⟨ρ', a', w', hs, ?_, hd, ?_, ?_⟩
  · refine ⟨?_, fun t => ?_⟩
    · rw [← e3, C.size ops.size (by omega)]; exact D'.tsize
    · rw [← e3]
      rcases C.last t ops.size (by omega) with ⟨j, oj, h1, h2, h3, h4, h5⟩ | ⟨h1, h2⟩
      · rw [h5]
        exact D'.lastw j oj t h2 (hall j h1) h3 fun k ok hk hok _ hdk => h4 k ok hk (Array.getElem?_eq_some_iff.1 hok).1 hok hdk
      · rw [h2]
        exact D'.nowr t fun k ok hok _ hdk => h1 k ok (Array.getElem?_eq_some_iff.1 hok).1 hok hdk
  · obtain ⟨m, hm', Hm, hwm⟩ := D'.heap
    have : Hh m = Hh ops.size := C.heap_eq (by omega) hm' fun k o hok hq => by
      have hk := (Array.getElem?_eq_some_iff.1 hok).1
      have := (hwm k o hok hq).1 (hall k hk)
      exact ⟨fun _ => hk, fun _ => this⟩
    rw [← e4, ← this]; exact Hm
  · refine .head stepR_region_draw ?_
    simp only [Region.schedule, hm, Bool.true_or, if_true]
    exact hst.trans (.one stepR_region_end)

end Go.Am
