/-
  The abstract machine: operations that leave the heap alone yield related values.
-/
import Derived.Test.YtkiognclopmciaaDoorAmRel
namespace Go.Am
open Go Go.RowKit

variable {P : Program} {ρ : Ren} {w0 w : World} {h : AHeap}

/-! Reading. -/

theorem AObj.row_or {base : Nat} {p : Pl} {o : AObj} {c : List Value} (hr : o.row = some c) (ho : OR ρ base p o w) : Row ρ p c w := by
  cases o with
  | cells c' e => simp [AObj.row] at hr; subst hr; exact ho.2.2
  | ro c' => simp [AObj.row] at hr; subst hr; exact ho.2
  | _ => simp [AObj.row] at hr

theorem Row.cell {p : Pl} {c : List Value} (H : Row ρ p c w) {i : Nat} {x : Value} (hx : c[i]? = some x) : ∃ y, w.cell? ⟨p.b, p.s + i, none⟩ = some y ∧ VR ρ x y := by
  obtain ⟨cc, el, fz, h1, h2, h3, h4, h5⟩ := H
  obtain ⟨y, hy, hv⟩ := h5 i x hx
  exact ⟨y, by simp [World.cell?, h1, hy], hv⟩

theorem aread_sim (H : HR P ρ w0 h w) {b i : Nat} {x : Value} {p : Pl} (hr : aread h b i = some x) (hp : ρ[b]? = some p) :
    ∃ y, w.cell? ⟨p.b, p.s + i, none⟩ = some y ∧ VR ρ x y := by
  unfold aread at hr
  cases hc : (h.get b).row with
  | none => simp [hc] at hr
  | some c => simp [hc] at hr; exact (AObj.row_or hc (H.obj b p hp).2).cell hr

theorem takeAt_spec {c : List Value} {i n : Nat} {l : List Value} (h : takeAt c i n = some l) : l.length = n ∧ ∀ j, j < n → l[j]? = c[i + j]? := by
  unfold takeAt at h
  split at h
  · cases h
    refine ⟨by simp; omega, fun j hj => ?_⟩
    rw [List.getElem?_take_of_lt hj, List.getElem?_drop]
  · cases h

theorem areadN_sim (H : HR P ρ w0 h w) {b i n : Nat} {l : List Value} {p : Pl} (hr : areadN h b i n = some l) (hp : ρ[b]? = some p) :
    ∃ l', LR ρ l l' ∧ l.length = n ∧ ∀ (j : Nat) (y : Value), l'[j]? = some y → w.cell? ⟨p.b, p.s + i + j, none⟩ = some y := by
  unfold areadN at hr
  cases hc : (h.get b).row with
  | none => simp [hc] at hr
  | some c =>
    simp [hc] at hr
    obtain ⟨hl, hj⟩ := takeAt_spec hr
    have HRow := AObj.row_or hc (H.obj b p hp).2
    have key : ∀ j, j < n → ∃ y, w.cell? ⟨p.b, p.s + i + j, none⟩ = some y ∧ ∀ x, l[j]? = some x → VR ρ x y := fun j hjn => by
      have hlt : j < l.length := by omega
      have hx : c[i + j]? = some l[j] := by rw [← hj j hjn]; exact List.getElem?_eq_getElem hlt
      obtain ⟨y, hy, hv⟩ := HRow.cell hx
      refine ⟨y, by rw [Nat.add_assoc]; exact hy, fun x hx' => ?_⟩
      rw [List.getElem?_eq_getElem hlt] at hx'
      cases hx'
      exact hv
    refine ⟨(List.range n).map fun j => (w.cell? ⟨p.b, p.s + i + j, none⟩).getD undef, ⟨by simp [hl], fun j x y hx hy => ?_⟩, hl, fun j y hy => ?_⟩
    · have hjn : j < n := by have := (List.getElem?_eq_some_iff.1 hx).1; omega
      obtain ⟨y', hy', hv⟩ := key j hjn
      simp [hjn, hy'] at hy
      subst hy
      exact hv x hx
    · have hjn : j < n := by have := (List.getElem?_eq_some_iff.1 hy).1; simpa using this
      obtain ⟨y', hy', _⟩ := key j hjn
      simp [hjn, hy'] at hy
      subst hy
      exact hy'

theorem Addr.add_none (b o n : Nat) : (⟨b, o, none⟩ : Addr).add n = ⟨b, o + n, none⟩ := by
  unfold Addr.add
  split
  · rename_i e; subst e; rfl
  · rfl

theorem run_loadCells_of (b o : Nat) (l : List Value) (hl : ∀ (j : Nat) (y : Value), l[j]? = some y → w.cell? ⟨b, o + j, none⟩ = some y) :
    (loadCells ⟨b, o, none⟩ l.length).run P w = .ok l.toArray w :=
  run_loadCells_list (P := P) (w := w) ⟨b, o, none⟩ l (fun j v hv => by rw [Addr.add_none]; exact hl j v hv)

theorem run_isAgg {t : TypeId} {r : Bool} (hr : aisAgg P t = some r) : (isAgg t).run P w = .ok r w := by
  unfold aisAgg at hr
  cases hu : P.underlying t with
  | none => simp [hu] at hr
  | some d => cases d <;> simp [hu] at hr <;> subst hr <;> simp [isAgg, run_underlying hu]

theorem run_sizeOf {t : TypeId} {n : Nat} (hn : asize P t = some n) : (sizeOf t).run P w = .ok n w := by
  unfold asize at hn
  cases hi : P.info? t with
  | none => simp [hi] at hn
  | some i => simp [hi] at hn; subst hn; simp [sizeOf, typeInfo, hi]

theorem aload_sim (H : HR P ρ w0 h w) {t : TypeId} {a a' v : Value} (hl : aload P h t a = some v) (ha : VR ρ a a') :
    ∃ v', (Instr.loadAt t a').run P w = .ok v' w ∧ VR ρ v v' := by
  unfold aload at hl
  split at hl
  · rename_i b i
    cases ha with
    | ptr i hp =>
      rename_i p
      simp only [Option.bind_eq_bind] at hl
      cases hg : aisAgg P t with
      | none => simp [hg] at hl
      | some r =>
        have h1 := run_isAgg (w := w) hg
        cases r with
        | false =>
          simp [hg] at hl
          obtain ⟨y, hy, hv⟩ := aread_sim H hl hp
          exact ⟨y, by simp [Instr.loadAt, Instr.sureAddr, loadVar, h1, hy], hv⟩
        | true =>
          simp only [hg, Option.bind_some] at hl
          cases hs : asize P t with
          | none => simp [hs] at hl
          | some n =>
            simp only [hs, if_true, Option.bind_some] at hl
            cases hcs : areadN h b i n with
            | none => simp [hcs] at hl
            | some cs =>
            simp only [hcs, Option.bind_some, Option.some.injEq] at hl
            subst hl
            obtain ⟨l', hlr, hn, hcell⟩ := areadN_sim H hcs hp
            have hn' : l'.length = n := by rw [← hlr.1]; exact hn
            have h2 := run_sizeOf (w := w) hs
            have h3 := run_loadCells_of (P := P) p.b (p.s + i) l' hcell
            rw [hn'] at h3
            exact ⟨.agg l'.toArray, by simp [Instr.loadAt, Instr.sureAddr, loadVar, h1, h2, h3], .agg_of hlr⟩
  · cases hl

/-! Values of the program's text. -/

theorem plainV_sim {v : Value} (hv : plainV v = true) : VR ρ v v := by
  cases v with
  | bool b => exact .bool b
  | int k n => exact .int k n
  | string s => exact .string s
  | nilFunc => exact .nilFunc
  | nilIface => exact .nilIface
  | pointer a => cases a with
    | none => exact .pnil
    | some a => simp [plainV] at hv
  | slice a n c => cases a with
    | none => exact .snil n c (by simpa [plainV, Nat.blt_eq] using hv)
    | some a => simp [plainV] at hv
  | _ => simp [plainV] at hv

theorem LR.plain {l : List Value} (hl : l.all plainV = true) : LR ρ l l :=
  ⟨rfl, fun i x y hx hy => by
    rw [hx] at hy; cases hy
    exact plainV_sim (List.all_eq_true.1 hl x (List.mem_of_getElem? hx))⟩

theorem azero_sim {t : TypeId} {z : Value} (hz : azero P t = some z) : (P.info? t).bind (·.zero) = some z ∧ LR ρ z.cells.toList z.cells.toList := by
  unfold azero at hz
  cases he : (P.info? t).bind (·.zero) with
  | none => simp [he] at hz
  | some z' =>
    cases z' <;> simp only [he] at hz <;> first
      | (cases hz; done)
      | (split at hz
         · cases hz; exact ⟨rfl, LR.plain ‹_›⟩
         · cases hz)

theorem run_zeroValue {t : TypeId} {z : Value} (hz : (P.info? t).bind (·.zero) = some z) : (zeroValue t).run P w = .ok z w := by
  cases hi : P.info? t with
  | none => simp [hi] at hz
  | some i => simp [hi] at hz; simp [zeroValue, typeInfo, hi, hz]

/-! Built values. -/

def PR (ρ : Ren) (xs ys : List (Nat × Value)) : Prop := xs.map (·.1) = ys.map (·.1) ∧ LR ρ (xs.map (·.2)) (ys.map (·.2))

theorem LR.set {xs ys : List Value} (hx : LR ρ xs ys) {x y : Value} (hv : VR ρ x y) (i : Nat) : LR ρ (xs.set i x) (ys.set i y) := by
  refine ⟨by simp [hx.1], fun j a b ha hb => ?_⟩
  by_cases hij : i = j
  · subst hij
    rw [List.getElem?_set_self (by have := (List.getElem?_eq_some_iff.1 ha).1; simpa using this)] at ha
    rw [List.getElem?_set_self (by have := (List.getElem?_eq_some_iff.1 hb).1; simpa using this)] at hb
    cases ha; cases hb; exact hv
  · rw [List.getElem?_set_ne hij] at ha hb
    exact hx.2 j a b ha hb

theorem foldl_set_sim : ∀ (l l' : List Value) (off k : Nat) (cs cs' : Array Value), LR ρ l l' → LR ρ cs.toList cs'.toList →
    LR ρ ((l.zipIdx k).foldl (fun cs (c, j) => cs.setIfInBounds (off + j) c) cs).toList ((l'.zipIdx k).foldl (fun cs (c, j) => cs.setIfInBounds (off + j) c) cs').toList := by
  intro l
  induction l with
  | nil => intro l' off k cs cs' hl hc; rw [hl.nil_left]; exact hc
  | cons x xs ih =>
    intro l' off k cs cs' hl hc
    obtain ⟨y, ys, rfl, hv, hs⟩ := hl.uncons
    simp only [List.zipIdx_cons, List.foldl_cons]
    exact ih ys off (k + 1) _ _ hs (by simp only [Array.toList_setIfInBounds]; exact hc.set hv _)

theorem fill_sim (place : Nat → Option (Nat × Nat)) : ∀ (xs ys : List (Nat × Value)) (cs cs' r : Array Value), PR ρ xs ys → LR ρ cs.toList cs'.toList →
    Instr.fill place cs xs = some r → ∃ r', Instr.fill place cs' ys = some r' ∧ LR ρ r.toList r'.toList := by
  intro xs
  induction xs with
  | nil =>
    intro ys cs cs' r hp hc hf
    have : ys = [] := by have := hp.1; simp at this; exact this.symm ▸ rfl
    subst this
    simp [Instr.fill] at hf ⊢
    subst hf
    exact hc
  | cons x xs ih =>
    intro ys cs cs' r hp hc hf
    cases ys with
    | nil => have := hp.1; simp at this
    | cons y ys =>
      obtain ⟨i, v⟩ := x
      obtain ⟨j, u⟩ := y
      have hp1 := hp.1
      simp at hp1
      obtain ⟨rfl, hp1⟩ := hp1
      have hp2 := hp.2
      simp only [List.map_cons] at hp2
      obtain ⟨y', ys', he, hv, hs⟩ := hp2.uncons
      cases he
      have hvc := hv.cells
      have hvs : v.cells.size = u.cells.size := by simpa using hvc.1
      have hcs : cs.size = cs'.size := by simpa using hc.1
      simp only [Instr.fill] at hf ⊢
      cases hpl : place i with
      | none => simp [hpl] at hf
      | some os =>
        obtain ⟨off, size⟩ := os
        simp only [hpl] at hf ⊢
        rw [← hvs, ← hcs]
        split at hf
        · cases hf
        · rename_i hcond
          rw [if_neg hcond]
          refine ih ys _ _ r ⟨hp1, hs⟩ ?_ hf
          rw [← Array.foldl_toList, ← Array.foldl_toList, Array.toList_zipIdx, Array.toList_zipIdx]
          exact foldl_set_sim _ _ _ _ _ _ hvc hc

theorem abuild_sim {t : TypeId} {xs : Array (Nat × Value)} {l : List (Nat × Value)} {v : Value} (hb : abuild P t l = some v) (hx : PR ρ l xs.toList) :
    ∃ v', (Instr.build t xs).run P w = .ok v' w ∧ VR ρ v v' := by
  unfold abuild at hb
  simp only [Option.bind_eq_bind] at hb
  cases hz : azero P t with
  | none => simp [hz] at hb
  | some z =>
    simp only [hz, Option.bind_some, Option.map_eq_some_iff] at hb
    obtain ⟨cells, hc, rfl⟩ := hb
    obtain ⟨hz1, hz2⟩ := azero_sim (ρ := ρ) hz
    have key : ∃ cells', P.built t xs.toList = some cells' ∧ LR ρ cells.toList cells'.toList := by
      unfold Program.built at hc ⊢
      cases hi : P.info? t with
      | none => simp [hi] at hc
      | some it =>
        simp [hi] at hz1
        cases hu : P.underlying t with
        | none => simp [hi, hu] at hc
        | some d =>
          cases d <;> simp only [hi, hu, hz1] at hc ⊢ <;> try (cases hc; done)
          case array n e =>
            cases hie : P.info? e with
            | none => simp [hie] at hc
            | some ie =>
              simp only [hie] at hc ⊢
              exact fill_sim _ _ _ _ _ _ hx hz2 hc
          case struct fields =>
            generalize hm : fields.toList.mapM (fun f => (P.info? f.type).map fun i => (f.offset, i.size)) = m at hc ⊢
            cases m with
            | none => cases hc
            | some places => exact fill_sim _ _ _ _ _ _ hx hz2 hc
    obtain ⟨cells', hc', hl⟩ := key
    refine ⟨.agg cells', run_build w t xs cells' hc', ?_⟩
    have := VR.agg_of hl
    simpa using this

/-! Addresses. -/

theorem afieldAddr_sim {s : TypeId} {a a' v : Value} {f : Nat} (hf : afieldAddr P s a f = some v) (ha : VR ρ a a') :
    ∃ v', (Instr.fieldAt s a' f).run P w = .ok v' w ∧ VR ρ v v' := by
  unfold afieldAddr at hf
  split at hf
  · rename_i fields b i hu
    cases ha with
    | ptr i hp =>
      rename_i p
      simp only [Option.bind_eq_bind] at hf
      cases hfd : fields[f]? with
      | none => simp [hfd] at hf
      | some fd =>
        simp only [hfd, Option.bind_some] at hf
        cases hs : asize P fd.type with
        | none => simp [hs] at hf
        | some n =>
          simp only [hs, Option.bind_some] at hf
          split at hf
          · cases hf
          · rename_i hn
            cases hf
            have h1 := run_underlying hu w
            have h2 := run_sizeOf (w := w) hs
            refine ⟨.pointer (some ⟨p.b, p.s + (i + fd.offset), none⟩), ?_, .ptr _ hp⟩
            simp [Instr.fieldAt, h1, hfd, Instr.sureAddr, fieldPlace, h2, hn, Addr.add_none, Nat.add_assoc]
  · cases hf

theorem aindexAddr_sim {t : TypeId} {x x' i i' v : Value} (hf : aindexAddr P t x i = some v) (hx : VR ρ x x') (hi : VR ρ i i') :
    ∃ v', (Instr.indexAt t x' i').run P w = .ok v' w ∧ VR ρ v v' := by
  unfold aindexAddr at hf
  split at hf
  · rename_i len elem b o k n hu
    cases hi
    cases hx with
    | ptr o hp =>
      rename_i p
      simp only [Option.bind_eq_bind] at hf
      cases hs : asize P elem with
      | none => simp [hs] at hf
      | some sz =>
        simp only [hs, Option.bind_some] at hf
        split at hf
        · rename_i hr
          cases hf
          have h2 := run_sizeOf (w := w) hs
          refine ⟨.pointer (some ⟨p.b, p.s + (o + n.toNat * sz), none⟩), ?_, .ptr _ hp⟩
          simp [Instr.indexAt, run_underlying hu, asIntOf, Instr.sureAddr, hr, h2, Addr.add_none, Nat.add_assoc]
        · cases hf
  · rename_i elem b o len cap k n hu
    cases hi
    simp only [Option.bind_eq_bind] at hf
    cases hs : asize P elem with
    | none => simp [hs] at hf
    | some sz =>
      simp only [hs, Option.bind_some] at hf
      split at hf
      · rename_i hr
        cases hf
        have h2 := run_sizeOf (w := w) hs
        cases hx with
        | slice o n' c hp hc =>
          rename_i p
          refine ⟨.pointer (some ⟨p.b, p.s + (o + n.toNat * sz), none⟩), ?_, .ptr _ hp⟩
          simp [Instr.indexAt, run_underlying hu, asIntOf, hr, h2, Addr.add_none, Nat.add_assoc]
        | «open» o n' c hp hc hz =>
          rename_i p
          refine ⟨.pointer (some ⟨p.b, p.s + (o + n.toNat * sz), none⟩), ?_, .ptr _ hp⟩
          simp [Instr.indexAt, run_underlying hu, asIntOf, hr, h2, Addr.add_none, Nat.add_assoc]
      · cases hf
  · cases hf

/-! Parts of values. -/

theorem LR.extract {xs ys : Array Value} (hx : LR ρ xs.toList ys.toList) (a b : Nat) : LR ρ (xs.extract a b).toList (ys.extract a b).toList := by
  have h1 : xs.size = ys.size := by simpa using hx.1
  refine ⟨by simp [h1], fun i x y hx' hy' => ?_⟩
  simp only [Array.toList_extract, List.extract_eq_take_drop] at hx' hy'
  have hi : i < b - a := by
    rcases Nat.lt_or_ge i (b - a) with h | h
    · exact h
    · rw [List.getElem?_eq_none (by simp; omega)] at hx'; cases hx'
  rw [List.getElem?_take_of_lt hi, List.getElem?_drop] at hx' hy'
  exact hx.2 _ x y hx' hy'

theorem apart_sim {t : TypeId} {xs ys : Array Value} {off : Nat} {v : Value} (hf : apart P t xs off = some v) (hx : LR ρ xs.toList ys.toList) :
    ∃ v', (part t ys off).run P w = .ok v' w ∧ VR ρ v v' := by
  unfold apart at hf
  simp only [Option.bind_eq_bind] at hf
  cases hg : aisAgg P t with
  | none => simp [hg] at hf
  | some r =>
    have h1 := run_isAgg (w := w) hg
    cases r with
    | false =>
      simp [hg] at hf
      obtain ⟨y, hy, hv⟩ := hx.get (i := off) (x := v) (by simpa using hf)
      exact ⟨y, by simp at hy; simp [part, h1, hy], hv⟩
    | true =>
      simp [hg] at hf
      cases hs : asize P t with
      | none => simp [hs] at hf
      | some n =>
        simp [hs] at hf
        subst hf
        have h2 := run_sizeOf (w := w) hs
        refine ⟨.agg (ys.extract off (off + n)), by simp [part, h1, h2], ?_⟩
        exact VR.agg_arr (hx.extract off (off + n))

theorem afield_sim {t : TypeId} {x x' v : Value} {f : Nat} (hf : afield P t x f = some v) (hx : VR ρ x x') :
    ∃ v', (Instr.field t x' f).run P w = .ok v' w ∧ VR ρ v v' := by
  unfold afield at hf
  split at hf
  · rename_i fields cs hu
    obtain ⟨ys, rfl, hl⟩ := hx.agg_inv
    simp only [Option.bind_eq_bind] at hf
    cases hfd : fields[f]? with
    | none => simp [hfd] at hf
    | some fd =>
      simp only [hfd, Option.bind_some] at hf
      obtain ⟨v', hr, hv⟩ := apart_sim (w := w) hf hl
      exact ⟨v', by simp [Instr.field, run_underlying hu, hfd, asAgg, hr], hv⟩
  · cases hf

theorem aindex_sim {t : TypeId} {x x' i i' v : Value} (hf : aindex P t x i = some v) (hx : VR ρ x x') (hi : VR ρ i i') :
    ∃ v', (Instr.index t x' i').run P w = .ok v' w ∧ VR ρ v v' := by
  unfold aindex at hf
  split at hf
  · rename_i len elem cs k n hu
    cases hi
    obtain ⟨ys, rfl, hl⟩ := hx.agg_inv
    simp only [Option.bind_eq_bind] at hf
    cases hs : asize P elem with
    | none => simp [hs] at hf
    | some sz =>
      simp only [hs, Option.bind_some] at hf
      split at hf
      · rename_i hr
        obtain ⟨v', hr', hv⟩ := apart_sim (w := w) hf hl
        exact ⟨v', by simp [Instr.index, run_underlying hu, asIntOf, hr, run_sizeOf (w := w) hs, hr'], hv⟩
      · cases hf
  · rename_i s k n hu
    cases hi
    cases hx
    split at hf
    · rename_i hr
      cases hb : s[n.toNat]? with
      | none => simp [hb] at hf
      | some b =>
        simp [hb] at hf
        subst hf
        exact ⟨_, by simp [Instr.index, run_underlying hu, asIntOf, hr, hb], .int _ _⟩
    · cases hf
  · cases hf

end Go.Am
