/-
  The abstract machine: slices, arithmetic, comparisons; all quiet operations together.
-/
import Derived.Test.YtkiognclopmciaaDoorAmPure
namespace Go.Am
open Go Go.RowKit

variable {P : Program} {ρ : Ren} {w0 w : World} {h : AHeap}

/-! Slice expressions. -/

/-- Related bounds: none, or the same number. -/
inductive BR : Option Value → Option Value → Prop where
  | none : BR none none
  | int (k : IntKind) (n : Int) : BR (some (.int k n)) (some (.int k n))

theorem run_bound_some {k : IntKind} {i : Int} {y y' n : Nat} {code : BoundsCode} {d : Nat} (hb : abound (some (.int k i)) d y = some n) (hy : y ≤ y') :
    (Instr.sliceBound (.int k i) y' code).run P w = .ok n w ∧ n ≤ y := by
  unfold abound at hb
  simp only at hb
  split at hb
  · rename_i hc
    cases hb
    have : 0 ≤ i ∧ i ≤ (y' : Int) := ⟨hc.1, by omega⟩
    exact ⟨by simp [Instr.sliceBound, asIntOf, this], by omega⟩
  · cases hb

theorem abound_none {d y n : Nat} (hb : abound none d y = some n) : n = d ∧ d ≤ y := by
  unfold abound at hb
  simp only at hb
  split at hb
  · cases hb; exact ⟨rfl, ‹_›⟩
  · cases hb

theorem abound_int {v : Value} {d y n : Nat} (hb : abound (some v) d y = some n) : ∃ k i, v = .int k i := by
  unfold abound at hb
  cases v <;> first | exact ⟨_, _, rfl⟩ | (simp at hb; done)

theorem VR.int_inv {k : IntKind} {n : Int} {y : Value} (h : VR ρ (.int k n) y) : y = .int k n := by cases h; rfl

/-- The three bounds: l, h, m as the model reckons them, where the capacity may be greater than ours. -/
theorem run_sliceBounds (isSlice : Bool) {len cap top m hh l : Nat} {lo hi mx lo' hi' mx' : Option Value}
    (hlo : ∀ v, lo = some v → ∃ v', lo' = some v' ∧ VR ρ v v') (hlo0 : lo = none → lo' = none)
    (hhi : ∀ v, hi = some v → ∃ v', hi' = some v' ∧ VR ρ v v') (hhi0 : hi = none → hi' = none)
    (hmx : ∀ v, mx = some v → ∃ v', mx' = some v' ∧ VR ρ v v') (hmx0 : mx = none → mx' = none)
    (htop : top ≤ cap) (hm : abound mx top top = some m)
    (hh1 : ahi hi mx len m = some hh)
    (hl : abound lo 0 hh = some l) :
    (Instr.sliceBounds isSlice len cap lo' hi' mx').run P w = .ok (l, hh, if mx.isNone then cap else m) w := by
  have low : ∀ (y c : Nat) code, y = hh → ((match lo' with | some v => (do let l ← Instr.sliceBound v y code; pure (l, y, c)) | none => (do let l ← pure 0; pure (l, y, c))) : Sem (Nat × Nat × Nat)).run P w = .ok (l, hh, c) w := by
    intro y c code hy
    subst hy
    cases lo with
    | none => rw [hlo0 rfl]; have := (abound_none hl).1; subst this; rfl
    | some v =>
      obtain ⟨v', e, hv⟩ := hlo v rfl
      obtain ⟨k, i, rfl⟩ := abound_int hl
      rw [e, hv.int_inv]
      simp only [Sem.run_bind]
      rw [(run_bound_some hl (Nat.le_refl _)).1]; rfl
  cases mx with
  | none =>
    obtain ⟨rfl, _⟩ := abound_none hm
    have e := hmx0 rfl
    subst e
    cases hi with
    | none =>
      have e := hhi0 rfl
      subst e
      simp [ahi] at hh1
      subst hh1
      simp only [Instr.sliceBounds, Sem.run_bind, Sem.run_pure, Result.andThen_ok]
      exact low len cap .sliceB rfl
    | some v =>
      obtain ⟨v', e, hv⟩ := hhi v rfl
      simp only [ahi] at hh1
      obtain ⟨k, i, rfl⟩ := abound_int hh1
      subst e
      rw [hv.int_inv]
      have h2 := (run_bound_some (P := P) (w := w) (code := if isSlice then .sliceAcap else .sliceAlen) hh1 htop).1
      simp only [Instr.sliceBounds, Sem.run_bind, Sem.run_pure, Result.andThen_ok]
      rw [h2]
      exact low hh cap .sliceB rfl
  | some vm =>
    obtain ⟨vm', e, hvm⟩ := hmx vm rfl
    obtain ⟨k, i, rfl⟩ := abound_int hm
    subst e
    rw [hvm.int_inv]
    have h1 := run_bound_some (P := P) (w := w) (code := if isSlice then .slice3Acap else .slice3Alen) hm htop
    cases hi with
    | none => simp [ahi] at hh1
    | some v =>
      obtain ⟨v', e, hv⟩ := hhi v rfl
      simp only [ahi] at hh1
      obtain ⟨k', i', rfl⟩ := abound_int hh1
      subst e
      rw [hv.int_inv]
      have h2 := (run_bound_some (P := P) (w := w) (code := .slice3B) hh1 (Nat.le_refl _)).1
      simp only [Instr.sliceBounds, Sem.run_bind]
      rw [h1.1]
      simp only [Result.andThen_ok]
      rw [h2]
      exact low hh m .slice3C rfl

theorem hh_le {hi mx : Option Value} {len m hh : Nat} (hh1 : ahi hi mx len m = some hh) (hlm : len ≤ m ∨ mx.isSome = true) :
    hh ≤ m := by
  cases hi with
  | none =>
    cases mx with
    | none => simp [ahi] at hh1; subst hh1; simpa using hlm
    | some v => simp [ahi] at hh1
  | some v =>
    simp only [ahi] at hh1
    obtain ⟨k, i, rfl⟩ := abound_int hh1
    exact (run_bound_some (P := default) (w := default) (code := .index) hh1 (Nat.le_refl _)).2

theorem ll_le {lo : Option Value} {hh l : Nat} (hl : abound lo 0 hh = some l) : l ≤ hh := by
  cases lo with
  | none => have := abound_none hl; omega
  | some v =>
    obtain ⟨k, i, rfl⟩ := abound_int hl
    exact (run_bound_some (P := default) (w := default) (code := .index) hl (Nat.le_refl _)).2

/-- The operands of a slice expression. -/
structure OpR (ρ : Ren) (x y : Option Value) : Prop where
  of : ∀ v, x = some v → ∃ v', y = some v' ∧ VR ρ v v'
  nil : x = none → y = none

theorem OpR.isNone {x y : Option Value} (H : OpR ρ x y) : x.isNone = y.isNone := by
  cases x with
  | none => rw [H.nil rfl]
  | some v => obtain ⟨v', e, _⟩ := H.of v rfl; rw [e]; rfl

theorem OpR.of_map {x : Option Operand} {ev ev' : Operand → Value} (H : ∀ a, x = some a → VR ρ (ev a) (ev' a)) : OpR ρ (x.map ev) (x.map ev') := by
  cases x with
  | none => exact ⟨fun v e => by simp at e, fun _ => rfl⟩
  | some a => exact ⟨fun v e => by simp at e; exact ⟨ev' a, rfl, e ▸ H a rfl⟩, fun e => by simp at e⟩

theorem run_bounds (isSlice : Bool) {len cap top m hh l : Nat} {lo hi mx lo' hi' mx' : Option Value} (hlo : OpR ρ lo lo') (hhi : OpR ρ hi hi') (hmx : OpR ρ mx mx')
    (htop : top ≤ cap) (hm : abound mx top top = some m) (hh1 : ahi hi mx len m = some hh) (hl : abound lo 0 hh = some l) :
    (Instr.sliceBounds isSlice len cap lo' hi' mx').run P w = .ok (l, hh, if mx.isNone then cap else m) w :=
  run_sliceBounds isSlice hlo.of hlo.nil hhi.of hhi.nil hmx.of hmx.nil htop hm hh1 hl

theorem abound_le {x : Option Value} {d y n : Nat} (hb : abound x d y = some n) : n ≤ y := by
  cases x with
  | none => have := abound_none hb; omega
  | some v =>
    obtain ⟨k, i, rfl⟩ := abound_int hb
    exact (run_bound_some (P := default) (w := default) (code := .index) hb (Nat.le_refl _)).2

theorem aslice_sim (H : HR P ρ w0 h w) {t : TypeId} {x x' v : Value} {lo hi mx lo' hi' mx' : Option Value} (hf : aslice P h t x lo hi mx = some v) (hx : VR ρ x x')
    (hlo : OpR ρ lo lo') (hhi : OpR ρ hi hi') (hmx : OpR ρ mx mx') :
    ∃ v', (Instr.sliceAt t x' lo' hi' mx').run P w = .ok v' w ∧ VR ρ v v' := by
  unfold aslice at hf
  split at hf
  · rename_i s hu
    cases hx
    simp only [Option.bind_eq_bind] at hf
    split at hf
    · cases hf
    · rename_i hmn
      cases mx with
      | some v => simp at hmn
      | none =>
      have e := hmx.nil rfl
      subst e
      cases hh1 : ahi hi none s.size s.size with
      | none => simp [hh1] at hf
      | some hh =>
        simp only [hh1, Option.bind_some] at hf
        cases hl : abound lo 0 hh with
        | none => simp [hl] at hf
        | some l =>
          simp only [hl, Option.bind_some, Option.some.injEq] at hf
          subst hf
          have hb := run_bounds (P := P) (w := w) false (m := s.size) hlo hhi hmx (Nat.le_refl s.size) (by simp [abound]) hh1 hl
          exact ⟨_, by simp [Instr.sliceAt, Instr.slice, run_underlying hu, hb], .string _⟩
  · rename_i elem a len cap hu
    simp only [Option.bind_eq_bind] at hf
    cases hs : asize P elem with
    | none => simp [hs] at hf
    | some size =>
      have h2 := run_sizeOf (w := w) hs
      simp only [hs, Option.bind_some] at hf
      split at hf
      · rename_i hcap
        cases hm : abound mx cap cap with
        | none => simp [hm] at hf
        | some m =>
        simp only [hm, Option.bind_some] at hf
        cases hh1 : ahi hi mx len m with
        | none => simp [hh1] at hf
        | some hh =>
        simp only [hh1, Option.bind_some] at hf
        cases hl : abound lo 0 hh with
        | none => simp [hl] at hf
        | some l =>
        simp only [hl, Option.bind_some] at hf
        have hb := run_bounds (P := P) (w := w) true hlo hhi hmx (Nat.le_refl cap) hm hh1 hl
        have hmm : (if mx.isNone then cap else m) = m := by
          cases mx with
          | none => have := (abound_none hm).1; subst this; rfl
          | some _ => rfl
        rw [hmm] at hb
        have hml := abound_le hm
        cases hx with
        | snil n c hc =>
          simp only [Option.some.injEq] at hf
          subst hf
          refine ⟨.slice none (hh - l) (m - l), ?_, .snil _ _ (by omega)⟩
          simp [Instr.sliceAt, Instr.slice, run_underlying hu, hb, h2]
        | slice i n c hp hc =>
          rename_i b p
          simp only [Option.some.injEq] at hf
          subst hf
          refine ⟨.slice (some ⟨p.b, p.s + (if m = l then i else i + l * size), none⟩) (hh - l) (m - l), ?_, .slice _ _ _ hp (by omega)⟩
          by_cases hml' : m = l
          · simp [Instr.sliceAt, Instr.slice, run_underlying hu, hb, h2, hml']
          · simp [Instr.sliceAt, Instr.slice, run_underlying hu, hb, h2, hml', Addr.add_none, Nat.add_assoc]
        | «open» i n c hp hn hz => exact absurd hcap (Nat.lt_irrefl _)
      · split at hf
        · rename_i hnc hcap
          obtain ⟨hcap, hlb⟩ := hcap
          cases hm : abound mx len len with
          | none => simp [hm] at hf
          | some m =>
          simp only [hm, Option.bind_some] at hf
          cases hh1 : ahi hi mx len m with
          | none => simp [hh1] at hf
          | some hh =>
          simp only [hh1, Option.bind_some] at hf
          cases hl : abound lo 0 hh with
          | none => simp [hl] at hf
          | some l =>
          simp only [hl, Option.bind_some] at hf
          cases hx with
          | snil n c hc => omega
          | slice i n c hp hc => omega
          | «open» i n c hp hn hz =>
            rename_i b p
            have hb := run_bounds (P := P) (w := w) true hlo hhi hmx hn hm hh1 hl
            simp only at hf
            have hml := abound_le hm
            split at hf
            · rename_i hms
              have : mx.isNone = false := by cases mx <;> simp_all
              rw [this] at hb
              simp only [Option.some.injEq] at hf
              subst hf
              refine ⟨.slice (some ⟨p.b, p.s + (if m = l then i else i + l * size), none⟩) (hh - l) (m - l), ?_, .slice _ _ _ hp ?_⟩
              · by_cases hml' : m = l
                · simp [Instr.sliceAt, Instr.slice, run_underlying hu, hb, h2, hml']
                · simp [Instr.sliceAt, Instr.slice, run_underlying hu, hb, h2, hml', Addr.add_none, Nat.add_assoc]
              · omega
            · rename_i hms
              have : mx.isNone = true := by cases mx <;> simp_all
              rw [this] at hb
              have hmn : mx = none := by cases mx <;> simp_all
              subst hmn
              obtain ⟨rfl, _⟩ := abound_none hm
              have hhl : hh ≤ m := by
                unfold ahi at hh1
                cases hi with
                | none => simp at hh1; omega
                | some v => exact abound_le hh1
              split at hf
              · rename_i hl0
                subst hl0
                simp only [Option.some.injEq] at hf
                subst hf
                refine ⟨.slice (some ⟨p.b, p.s + i, none⟩) hh c, ?_, .open _ _ _ hp (by omega) hz⟩
                simp [Instr.sliceAt, Instr.slice, run_underlying hu, hb, h2, Addr.add_none]
              · split at hf
                · rename_i hl0 hlt
                  obtain ⟨hlt, he⟩ := hlt
                  simp only [Option.some.injEq] at hf
                  subst hf
                  have hpe : p.e = size := by
                    unfold eszOf at he
                    have ho := (H.obj _ _ hp).2
                    cases hg : h.get b with
                    | cells cs e => rw [hg] at he ho; simp at he; exact ho.2.1.trans he
                    | _ => rw [hg] at he; simp at he
                  refine ⟨.slice (some ⟨p.b, p.s + (i + l * size), none⟩) (hh - l) (c - l), ?_, .open _ _ _ hp (by omega) ?_⟩
                  · have hcl : ¬ c = l := by omega
                    simp [Instr.sliceAt, Instr.slice, run_underlying hu, hb, h2, hcl, Addr.add_none, Nat.add_assoc]
                  · rw [hpe] at hz ⊢
                    have : (c - l) * size + l * size = c * size := by rw [← Nat.add_mul]; congr 1; omega
                    omega
                · cases hf
        · cases hf
  · rename_i n elem b o hu
    cases hx with
    | ptr i hp =>
    rename_i p
    simp only [Option.bind_eq_bind] at hf
    cases hs : asize P elem with
    | none => simp [hs] at hf
    | some size =>
      have h2 := run_sizeOf (w := w) hs
      simp only [hs, Option.bind_some] at hf
      split at hf
      · rename_i hcap
        cases hm : abound mx n n with
        | none => simp [hm] at hf
        | some m =>
        simp only [hm, Option.bind_some] at hf
        cases hh1 : ahi hi mx n m with
        | none => simp [hh1] at hf
        | some hh =>
        simp only [hh1, Option.bind_some] at hf
        cases hl : abound lo 0 hh with
        | none => simp [hl] at hf
        | some l =>
        simp only [hl, Option.bind_some, Option.some.injEq] at hf
        have hb := run_bounds (P := P) (w := w) false hlo hhi hmx (Nat.le_refl n) hm hh1 hl
        have hmm : (if mx.isNone then n else m) = m := by
          cases mx with
          | none => have := (abound_none hm).1; subst this; rfl
          | some _ => rfl
        rw [hmm] at hb
        have hml := abound_le hm
        subst hf
        refine ⟨.slice (some ⟨p.b, p.s + (if m = l then o else o + l * size), none⟩) (hh - l) (m - l), ?_, .slice _ _ _ hp (by omega)⟩
        by_cases hml' : m = l
        · simp [Instr.sliceAt, Instr.sureAddr, run_underlying hu, hb, h2, hml']
        · simp [Instr.sliceAt, Instr.sureAddr, run_underlying hu, hb, h2, hml', Addr.add_none, Nat.add_assoc]
      · cases hf
  · cases hf

end Go.Am
