/-
  The abstract machine: conversions, append and copy; all operations together.
-/
import Derived.Test.YtkiognclopmciaaDoorAmEff
namespace Go.Am
open Go Go.RowKit

variable {P : Program} {ρ : Ren} {w0 w : World} {h : AHeap}

theorem lenOf_sim {x x' : Value} {n : Nat} (hf : lenOf x = some n) (hx : VR ρ x x') : (Builtin.lenOf x').run P w = .ok n w := by
  cases hx <;> simp [lenOf] at hf <;> subst hf <;> simp [Builtin.lenOf]

theorem LR.bytes (l : List UInt8) : LR ρ (l.map fun b => Value.int .u8 b.toNat) (l.map fun b => Value.int .u8 b.toNat) := by
  apply LR.plain
  simp [plainV]

theorem firstOf_sim (H : HR P ρ w0 h w) {size n : Nat} {x x' : Value} {l : List Value} (hf : firstOf h size n x = some l) (hx : VR ρ x x') :
    ∃ l', (Builtin.firstCells size n x').run P w = .ok l'.toArray w ∧ LR ρ l l' := by
  cases hx with
  | slice i m c hp hc =>
    simp only [firstOf] at hf
    obtain ⟨l', h1, h2, h3⟩ := areadN_sim H hf hp
    have h4 := run_loadCells_of (P := P) _ _ l' h3
    have h5 : l'.length = n * size := by rw [← h1.1]; exact h2
    rw [h5] at h4
    exact ⟨l', by simp [Builtin.firstCells, h4], h1⟩
  | «open» i m c hp hc hz =>
    simp only [firstOf] at hf
    obtain ⟨l', h1, h2, h3⟩ := areadN_sim H hf hp
    have h4 := run_loadCells_of (P := P) _ _ l' h3
    have h5 : l'.length = n * size := by rw [← h1.1]; exact h2
    rw [h5] at h4
    exact ⟨l', by simp [Builtin.firstCells, h4], h1⟩
  | snil m c hc =>
    simp only [firstOf] at hf
    cases hf
    exact ⟨[], by simp [Builtin.firstCells], LR.nil ρ⟩
  | string s =>
    simp only [firstOf] at hf
    cases hf
    refine ⟨((s.extract 0 n).data.map fun b => .int .u8 b.toNat).toList, by simp only [Builtin.firstCells, Array.toArray_toList]; rfl, ?_⟩
    simp only [Array.toList_map]
    exact LR.bytes _
  | _ => simp [firstOf] at hf

theorem firstOf_length {size n : Nat} {b o m c : Nat} {l : List Value} (H : HR P ρ w0 h w) {p : Pl} (hp : ρ[b]? = some p) (hf : firstOf h size n (.slice (some ⟨b, o, none⟩) m c) = some l) : l.length = n * size := by
  simp only [firstOf] at hf
  obtain ⟨l', h1, h2, h3⟩ := areadN_sim H hf hp
  exact h2

theorem awriteAt_sim (H : HR P ρ w0 h w) {s s' : Value} {base : Option Addr} {n c k : Nat} (hs : s = .slice base n c) (hv : VR ρ s s') {xs ys : List Value} {h' : AHeap} (hf : awriteAt h base k xs = some h') (hl : LR ρ xs ys) :
    ∃ base' n' c' w', s' = .slice base' n' c' ∧ (match base' with | some a => storeCells (a.add k) ys | none => (pure () : Sem Unit)).run P w = .ok () w' ∧ HR P ρ w0 h' w' := by
  subst hs
  cases hv with
  | snil n c hc =>
    unfold awriteAt at hf
    cases xs with
    | nil => cases hf; exact ⟨_, _, _, w, rfl, rfl, H⟩
    | cons x xs => simp at hf
  | slice i n c hp hc =>
    rename_i b p
    refine ⟨some ⟨p.b, p.s + i, none⟩, n, c, ?_⟩
    cases xs with
    | nil =>
      simp [awriteAt] at hf
      subst hf
      rw [hl.nil_left]
      exact ⟨w, rfl, rfl, H⟩
    | cons x xs =>
      simp only [awriteAt] at hf
      obtain ⟨w', h1, h2⟩ := awriteN_sim H hf hp hl
      exact ⟨w', rfl, by simpa [Addr.add_none, Nat.add_assoc] using h1, h2⟩
  | «open» i n c hp hc hz =>
    rename_i b p
    refine ⟨some ⟨p.b, p.s + i, none⟩, n, c, ?_⟩
    cases xs with
    | nil =>
      simp [awriteAt] at hf
      subst hf
      rw [hl.nil_left]
      exact ⟨w, rfl, rfl, H⟩
    | cons x xs =>
      simp only [awriteAt] at hf
      obtain ⟨w', h1, h2⟩ := awriteN_sim H hf hp hl
      exact ⟨w', rfl, by simpa [Addr.add_none, Nat.add_assoc] using h1, h2⟩

theorem acopy_sim (H : HR P ρ w0 h w) {ts : Array TypeId} {ty : TypeId} {d d' x x' v : Value} {h' : AHeap} (hf : acopy P h ts d x = some (v, h')) (hd : VR ρ d d') (hx : VR ρ x x') :
    Eff P ρ w0 v h' ((Builtin.copy_ ts ty #[d', x']).run P w) := by
  unfold acopy at hf
  split at hf
  · rename_i dt ht
    split at hf
    · rename_i elem base dLen dCap hu
      split at hf
      · rename_i size m hs hm
        split at hf
        · rename_i new hnew
          simp only [Option.map_eq_some_iff] at hf
          obtain ⟨h2, hw, he⟩ := hf
          cases he
          obtain ⟨new', hr1, hl⟩ := firstOf_sim H hnew hx
          obtain ⟨base', n', c', w', hd', hst, H'⟩ := awriteAt_sim H rfl hd hw hl
          have hn : n' = dLen := by subst hd'; cases hd <;> rfl
          subst hn
          have h3 := run_sizeOf (w := w) hs
          have h4 := lenOf_sim (P := P) (w := w) hm hx
          refine ⟨ρ, _, w', ?_, Sub.refl ρ, H', .int _ _⟩
          subst hd'
          cases base' with
          | none =>
            simp at hst
            subst hst
            simp [Builtin.copy_, ht, run_underlying hu, h4, h3, hr1, goInt]
          | some a =>
            have e0 : a.add 0 = a := by simp [Addr.add]
            simp only [e0] at hst
            simp [Builtin.copy_, ht, run_underlying hu, h4, h3, hr1, goInt, hst]
        · cases hf
      · cases hf
    · cases hf
  · cases hf

theorem run_lenZeros {xt : TypeId} {xd : TypeDesc} (hu : P.underlying xt = some xd) (hi : isIntT xd = false) (w : World) :
    ((do pure ((← underlying xt) matches .int _)) : Sem Bool).run P w = .ok false w := by
  cases xd <;> simp [isIntT] at hi <;> simp [run_underlying hu]

/-- The place and the value of a slice that was made by an append. -/
theorem open_new {p : Pl} {b n c : Nat} (hp : ρ[b]? = some p) (hn : n ≤ c) (hz : p.s + c * p.e ≤ p.z) : VR ρ (.slice (some ⟨b, 0, none⟩) n big) (.slice (some ⟨p.b, p.s, none⟩) n c) := by
  have := VR.open (ρ := ρ) 0 n c hp hn (by simpa using hz)
  simpa using this

theorem take_three {a b c : List Value} {n : Nat} (h : n = a.length + b.length) : (a ++ b ++ c).take n = a ++ b := by
  subst h
  rw [← List.length_append, List.take_left]

theorem HR.drew' (H : HR P ρ w0 h w) : HR P ρ w0 h w.drew := H.drew (w.drawn + 1)

theorem intT_no {xd : TypeDesc} (h : isIntT xd = false) : xd = .string ∨ ∃ e, xd = .slice e := by
  cases xd <;> first | exact .inl rfl | exact .inr ⟨_, rfl⟩ | (simp [isIntT] at h)

/-- The model's append, where it grows. -/
theorem run_append_grows {st xt elem ty : TypeId} {ts : Array TypeId} {xd : TypeDesc} {i : TypeInfo} {z : Value} (h0 : ts[0]? = some st) (h1 : ts[1]? = some xt)
    (hu : P.underlying st = some (.slice elem)) (hx : P.underlying xt = some xd) (hxi : isIntT xd = false) (hi : P.info? elem = some i) (hz : i.zero = some z)
    {base : Option Addr} {sLen sCap n : Nat} {x' : Value} (hn : (Builtin.lenOf x').run P w = .ok n w) (hg : sCap < sLen + n) (hb0 : i.bytes ≠ 0) (hby : (sLen + n) * i.bytes ≤ 140737488355328)
    {old new : List Value} (ho : (Builtin.firstCells i.size sLen (.slice base sLen sCap)).run P w.drew = .ok old.toArray w.drew) (hnew : (Builtin.firstCells i.size n x').run P w.drew = .ok new.toArray w.drew) :
    (Builtin.append_ ts ty #[.slice base sLen sCap, x']).run P w = .ok (.slice (some ⟨w.heap.size, 0, none⟩) (sLen + n) (grownCap w (sLen + n) sCap elem))
      (w.drew.alloc (.cells (old.toArray ++ new.toArray ++ Builtin.zeroCells z.cells (grownCap w (sLen + n) sCap elem - (sLen + n))) elem)) := by
  have h63' : ¬ (9223372036854775807 < ((sLen : Int) + (n : Int))) := by
    have : sLen + n ≤ (sLen + n) * i.bytes := Nat.le_mul_of_pos_right _ (Nat.pos_of_ne_zero hb0)
    omega
  have h48 := growslice_fits (need := sLen + n) (old := sCap) (bytes := i.bytes) hg (by omega)
  have h48' : ¬ (281474976710656 < Builtin.nextslicecap (sLen + n) sCap * i.bytes) := by omega
  have hn' : ¬ (sLen + n ≤ sCap) := by omega
  rcases intT_no hxi with rfl | ⟨e, rfl⟩ <;>
    simp [Builtin.append_, h0, h1, run_underlying hu, run_underlying hx, sizeOf, typeInfo, zeroValue, hi, hz, hn, hn', h63', h48', Question.forced, ho, hnew, newRow, grownCap] <;>
    (congr 2; apply Array.ext'; simp [List.append_assoc])

theorem run_append_stays {st xt elem ty : TypeId} {ts : Array TypeId} {xd : TypeDesc} {i : TypeInfo} (h0 : ts[0]? = some st) (h1 : ts[1]? = some xt)
    (hu : P.underlying st = some (.slice elem)) (hx : P.underlying xt = some xd) (hxi : isIntT xd = false) (hi : P.info? elem = some i)
    {base : Option Addr} {sLen sCap n : Nat} {x' : Value} (hn : (Builtin.lenOf x').run P w = .ok n w) (hg : sLen + n ≤ sCap)
    {new : List Value} {w' : World} (hnew : (Builtin.firstCells i.size n x').run P w = .ok new.toArray w)
    (hst : (match base with | some a => storeCells (a.add (sLen * i.size)) new | none => (pure () : Sem Unit)).run P w = .ok () w') :
    (Builtin.append_ ts ty #[.slice base sLen sCap, x']).run P w = .ok (.slice base (sLen + n) sCap) w' := by
  cases base with
  | none =>
    simp at hst
    subst hst
    rcases intT_no hxi with rfl | ⟨e, rfl⟩ <;>
      simp [Builtin.append_, h0, h1, run_underlying hu, run_underlying hx, sizeOf, typeInfo, hi, hn, hg, hnew]
  | some a =>
    simp only at hst
    rcases intT_no hxi with rfl | ⟨e, rfl⟩ <;>
      simp [Builtin.append_, h0, h1, run_underlying hu, run_underlying hx, sizeOf, typeInfo, hi, hn, hg, hnew, hst]

/-- Behind a growth: a new row of ours. -/
theorem grown_sim (H : HR P ρ w0 h w) {elem : TypeId} {i : TypeInfo} {z : Value} (hzs : z.cells.size = i.size) {sLen n sCap : Nat} {old new old' new' : List Value}
    (hlo : LR ρ old old') (hln : LR ρ new new') (ho : old'.length = sLen * i.size) (hnn : new'.length = n * i.size) :
    Eff P ρ w0 (.slice (some ⟨h.n, 0, none⟩) (sLen + n) big) (h.push (.cells (old ++ new) i.size)) (.ok (.slice (some ⟨w.heap.size, 0, none⟩) (sLen + n) (grownCap w (sLen + n) sCap elem))
      (w.drew.alloc (.cells (old'.toArray ++ new'.toArray ++ Builtin.zeroCells z.cells (grownCap w (sLen + n) sCap elem - (sLen + n))) elem))) := by
  have hge := grownCap_ge w (sLen + n) sCap elem
  generalize grownCap w (sLen + n) sCap elem = c at hge ⊢
  generalize hcc : old'.toArray ++ new'.toArray ++ Builtin.zeroCells z.cells (c - (sLen + n)) = cc
  have hsz : cc.size = c * i.size := by
    subst hcc
    simp only [Array.size_append, List.size_toArray, size_zeroCells, hzs, ho, hnn, ← Nat.add_mul]
    congr 1
    omega
  have htk : cc.toList.take (old' ++ new').length = old' ++ new' := by
    subst hcc
    simp only [Array.toList_append]
    exact List.take_left
  obtain ⟨h1, h2⟩ := LR.pre (hlo.append hln) cc htk
  have hH := H.drew'.newRow elem i.size h1 h2 (0, 0) (fun i _ => by simp)
  refine ⟨_, _, _, rfl, Sub.append _ _, hH, ?_⟩
  exact open_new (p := ⟨w.drew.heap.size, 0, i.size, cc.size⟩) (H.last _) hge (by simp [hsz])

/-- Stores into a row, wherever it lies. -/
theorem raw_stores (b o : Nat) (el : TypeId) (fz : Nat × Nat) : ∀ (ys : List Value) (i : Nat) (cc : Array Value) (w : World), w.heap[b]? = some (.cells cc el fz) → o + i + ys.length ≤ cc.size →
    (∀ j, j < cc.size → (decide (fz.1 ≤ j) && decide (j < fz.2)) = false) → (∀ y ∈ ys, y.oneCell' = true) →
    ∃ cc' w', (storeCells ⟨b, o, none⟩ ys i).run P w = .ok () w' ∧ w'.heap[b]? = some (.cells cc' el fz) ∧ cc'.size = cc.size ∧
      (∀ j, j < o + i → cc'[j]? = cc[j]?) ∧ (∀ j, j < ys.length → cc'[o + i + j]? = ys[j]?) ∧ (∀ k, k ≠ b → w'.heap[k]? = w.heap[k]?) ∧ w'.heap.size = w.heap.size ∧
      (∀ B (w0 : World), B ≤ b → Below B w0 w → Below B w0 w') := by
  intro ys
  induction ys with
  | nil =>
    intro i cc w h1 _ _ _
    exact ⟨cc, w, rfl, h1, rfl, fun _ _ => rfl, fun j hj => by simp at hj, fun _ _ => rfl, rfl, fun _ _ _ h => h⟩
  | cons y ys ih =>
    intro i cc w h1 h2 h3 h4
    simp only [List.length_cons] at h2
    have hlt : o + i < cc.size := by omega
    have hcell : w.cell? ⟨b, o + i, none⟩ = some cc[o + i] := by simp [World.cell?, h1, Array.getElem?_eq_getElem hlt]
    have hfz : w.frozen? ⟨b, o + i, none⟩ = false := by simp only [World.frozen?, h1]; exact h3 _ hlt
    have hst : (store ⟨b, o + i, none⟩ y).run P w = .ok () (w.setCell ⟨b, o + i, none⟩ y) := by
      rw [run_store P w _ y .plain (h4 y (by simp)), hcell]; simp [hfz]
    have hk := heap_setCell_same w b (o + i) y h1
    obtain ⟨cc', w', k1, k2, k3, k4, k5, k6, k7, k8⟩ := ih (i + 1) (cc.setIfInBounds (o + i) y) _ hk (by simp; omega) (by simpa using h3) (fun z hz => h4 z (by simp [hz]))
    refine ⟨cc', w', ?_, k2, by simpa using k3, fun j hj => ?_, fun j hj => ?_, fun k hkb => ?_, by rw [k7]; simp [World.setCell], fun B w0 hB hb => k8 B w0 hB (hb.setCell hB y)⟩
    · simp only [storeCells, Sem.run_bind, Addr.add_none]
      rw [hst]
      exact k1
    · rw [k4 j (by omega), Array.getElem?_setIfInBounds_ne (by omega)]
    · cases j with
      | zero => rw [k4 (o + i + 0) (by omega)]; simp [hlt]
      | succ j =>
        have := k5 j (by simpa using hj)
        rw [show o + i + (j + 1) = o + (i + 1) + j from by omega, this]
        rfl
    · rw [k6 k hkb]; exact Below.heap_setCell _ _ _ _ hkb

theorem LR.oneCell {xs ys : List Value} (hl : LR ρ xs ys) (hc : xs.all isCell = true) : ∀ y ∈ ys, y.oneCell' = true := by
  intro y hy
  obtain ⟨i, hi⟩ := List.getElem?_of_mem hy
  have hlt : i < xs.length := by rw [hl.1]; exact (List.getElem?_eq_some_iff.1 hi).1
  exact isCell_sim (hl.2 i xs[i] y (List.getElem?_eq_getElem hlt) hi) (List.all_eq_true.1 hc _ (List.getElem_mem hlt))

/-- An append in place, behind a row whose capacity is not known: the old row is forgotten. -/
theorem stays_sim (H : HR P ρ w0 h w) {b o size k c : Nat} {p : Pl} (hp : ρ[b]? = some p) {old new new' : List Value} (hold : areadN h b o (k * size) = some old) (he : eszOf h b = some size)
    (hln : LR ρ new new') (hcell : new.all isCell = true) {m : Nat} (hnl : new.length = m * size) (hmc : k + m ≤ c) (hz : p.s + o + c * p.e ≤ p.z) :
    ∃ w', (storeCells ⟨p.b, p.s + o + k * size, none⟩ new').run P w = .ok () w' ∧
      HR P (ρ ++ [⟨p.b, p.s + o, size, p.z⟩]) w0 ((h.set b .dead).push (.cells (old ++ new) size)) w' ∧ p.e = size := by
  unfold eszOf at he
  cases hg : h.get b with
  | cells cs e =>
    rw [hg] at he
    simp at he
    subst he
    have hb := H.lt hp

    obtain ⟨hpb, ho⟩ := H.obj b p hp
    rw [hg] at ho
    obtain ⟨hbase, hpe, cc, el, fz, k1, k2, k3, k4, k5⟩ := ho
    rw [hpe] at hz
    have hcs : areadN h b o (k * e) = some old := hold
    unfold areadN at hcs
    rw [hg] at hcs
    simp only [AObj.row, Option.bind_some] at hcs
    obtain ⟨hol, hoj⟩ := takeAt_spec hcs
    have hkm : (k + m) * e ≤ c * e := Nat.mul_le_mul_right _ hmc
    rw [Nat.add_mul] at hkm
    have hlen' : new'.length = m * e := by rw [← hln.1]; exact hnl
    obtain ⟨cc', w', j1, j2, j3, j4, j5, j6, j7, j8⟩ := raw_stores (P := P) p.b (p.s + o + k * e) el fz new' 0 cc w k1 (by omega) (fun j hj => k4 j (by omega)) (hln.oneCell hcell)
    have hK := H.kill b hb
    have hT : HR P ρ w0 (h.set b .dead) w' := by
      refine hK.turn (j8 _ _ hbase H.below) (by omega) (fun d q hq hl => j6 q.b ?_)
      rw [AHeap.get_set _ _ _ _] at hl
      split at hl
      · simp [live] at hl
      · exact H.inj d b q p ‹_› hq hp hl (by rw [hg]; rfl)
    refine ⟨w', j1, ?_, hpe⟩
    refine hT.put ⟨p.b, p.s + o, e, p.z⟩ _ (by simp only; omega) ⟨hbase, rfl, cc', el, fz, j2, by simp only; omega, ?_, by simpa using k4, fun i x hx => ?_⟩ (fun d q hq hl _ => ?_)
    · simp only [List.length_append, hol, hnl]; omega
    · simp only
      by_cases hi : i < old.length
      · rw [List.getElem?_append_left hi] at hx
        rw [hoj i (by omega)] at hx
        obtain ⟨y, hy, hv⟩ := k5 _ x hx
        refine ⟨y, ?_, hv.mono (Sub.append _ _)⟩
        rw [j4 _ (by omega), Nat.add_assoc]
        exact hy
      · rw [List.getElem?_append_right (by omega)] at hx
        obtain ⟨y, hy, hv⟩ := hln.get hx
        refine ⟨y, ?_, hv.mono (Sub.append _ _)⟩
        have hil : i - old.length < new'.length := (List.getElem?_eq_some_iff.1 hy).1
        have := j5 (i - old.length) hil
        rw [show p.s + o + i = p.s + o + k * e + 0 + (i - old.length) from by omega, this]
        exact hy
    · rw [AHeap.get_set _ _ _ _] at hl
      split at hl
      · simp [live] at hl
      · exact H.inj d b q p ‹_› hq hp hl (by rw [hg]; rfl)
  | _ => rw [hg] at he; simp at he

theorem aappend_sim (H : HR P ρ w0 h w) {ts : Array TypeId} {ty : TypeId} {s s' x x' v : Value} {h' : AHeap} (hf : aappend P h ts s x = some (v, h')) (hs : VR ρ s s') (hx : VR ρ x x') :
    Eff P ρ w0 v h' ((Builtin.append_ ts ty #[s', x']).run P w) := by
  unfold aappend at hf
  split at hf
  · rename_i st xt h0 h1
    split at hf
    · rename_i elem xd base sLen sCap hu hxu
      split at hf
      · rename_i i z n hi hz hlen
        split at hf
        · cases hf
        · rename_i hc
          simp only [Bool.or_eq_true, decide_eq_true_eq, not_or, Bool.not_eq_true] at hc
          obtain ⟨⟨⟨⟨c1, c2⟩, c3⟩, c5⟩, c6⟩ := hc
          have c5' : z.cells.size = i.size := Decidable.not_not.1 c5
          have hz1 := (azero_sim (ρ := ρ) hz).1
          simp only [hi, Option.bind_some] at hz1
          have hl := lenOf_sim (P := P) (w := w) hlen hx
          split at hf
          · cases hf
          · rename_i new hnew
            obtain ⟨new', hr1, hln⟩ := firstOf_sim H hnew hx
            split at hf
            · cases hf
            rename_i hnl
            have hnl := Decidable.not_not.1 hnl
            split at hf
            · rename_i hcap
              split at hf
              · rename_i hroom
                simp only [Option.map_eq_some_iff] at hf
                obtain ⟨h2, hw, he⟩ := hf
                cases he
                obtain ⟨base', n', c', w', rfl, hst, H'⟩ := awriteAt_sim H rfl hs hw hln
                have hn' : n' = sLen ∧ c' = sCap ∧ VR ρ (.slice base (sLen + n) sCap) (.slice base' (sLen + n) sCap) := by
                  cases hs with
                  | snil n c hc => exact ⟨rfl, rfl, .snil _ _ hc⟩
                  | slice i n c hp hc => exact ⟨rfl, rfl, .slice _ _ _ hp hc⟩
                  | «open» i n c hp hc hz => exact absurd hcap (Nat.lt_irrefl _)
                obtain ⟨rfl, rfl, hv⟩ := hn'
                have hr := run_append_stays (P := P) (w := w) (ty := ty) h0 h1 hu hxu c1 hi hl hroom hr1 hst
                exact ⟨ρ, _, w', hr, Sub.refl ρ, H', hv⟩
              · rename_i hroom
                split at hf
                · rename_i old hold
                  split at hf
                  rotate_left
                  · cases hf
                  rename_i hol
                  cases hf
                  obtain ⟨old', hr2, hlo⟩ := firstOf_sim H.drew' hold hs
                  obtain ⟨new2, hr3, hln2⟩ := firstOf_sim H.drew' hnew hx
                  have hsh : ∃ base', s' = .slice base' sLen sCap := by
                    cases hs with
                    | snil n c hc => exact ⟨_, rfl⟩
                    | slice i n c hp hc => exact ⟨_, rfl⟩
                    | «open» i n c hp hc hz => exact absurd hcap (Nat.lt_irrefl _)
                  obtain ⟨base', rfl⟩ := hsh
                  have hr := run_append_grows (P := P) (w := w) (ty := ty) h0 h1 hu hxu c1 hi hz1 hl (by omega) c3 (by omega) hr2 hr3
                  rw [hr]
                  exact grown_sim H c5' hlo hln2 (by rw [← hlo.1]; exact hol) (by rw [← hln2.1]; exact hnl)
                · cases hf
            · split at hf
              · rename_i hcap
                subst hcap
                split at hf
                · rename_i hn0
                  subst hn0
                  split at hf
                  · rename_i hnn
                    subst hnn
                    cases hf
                    rw [hln.nil_left] at hr1
                    cases hs with
                    | snil n c hc => exact absurd hc (Nat.lt_irrefl _)
                    | slice i n c hp hc => exact absurd hc (Nat.lt_irrefl _)
                    | «open» j n c hp hnc hzc =>
                      rename_i b p
                      have hr := run_append_stays (P := P) (w := w) (w' := w) (ty := ty) h0 h1 hu hxu c1 hi (base := some ⟨p.b, p.s + j, none⟩) hl (by omega) hr1 (by rfl)
                      exact ⟨ρ, _, w, hr, Sub.refl ρ, H, .open _ _ _ hp hnc hzc⟩
                  · cases hf
                · rename_i hn0
                  split at hf
                  · rename_i b o
                    split at hf
                    · rename_i old e hold he
                      split at hf
                      · rename_i hcond
                        obtain ⟨rfl, hcell⟩ := hcond
                        cases hf
                        cases hs with
                        | slice j n c hp hc => exact absurd hc (Nat.lt_irrefl _)
                        | «open» j k c hp hnc hzc =>
                          rename_i p
                          by_cases hroom : sLen + n ≤ c
                          · obtain ⟨w', hst, hH, hpe⟩ := stays_sim H hp hold he hln hcell hnl hroom hzc
                            have hr := run_append_stays (P := P) (w := w) (w' := w') (ty := ty) h0 h1 hu hxu c1 hi (base := some ⟨p.b, p.s + o, none⟩) hl hroom hr1 (by simpa [Addr.add_none] using hst)
                            refine ⟨_, _, w', hr, Sub.append _ _, hH, ?_⟩
                            refine open_new (p := ⟨p.b, p.s + o, i.size, p.z⟩) ?_ hroom (by rw [hpe] at hzc; exact hzc)
                            have := (H.kill b (H.lt hp)).last ⟨p.b, p.s + o, i.size, p.z⟩
                            simpa using this
                          · obtain ⟨old', hr2, hlo⟩ := firstOf_sim H.drew' (x := .slice (some ⟨b, o, none⟩) sLen big) (n := sLen) (size := i.size) (by simpa [firstOf] using hold) (.open _ _ _ hp hnc hzc)
                            obtain ⟨new2, hr3, hln2⟩ := firstOf_sim H.drew' hnew hx
                            have hr := run_append_grows (P := P) (w := w) (ty := ty) h0 h1 hu hxu c1 hi hz1 hl (by omega) c3 (by omega) hr2 hr3
                            rw [hr]
                            have hol : old.length = sLen * i.size := by
                              unfold areadN at hold
                              simp only [Option.bind_eq_some_iff] at hold
                              obtain ⟨cs, _, hcs⟩ := hold
                              exact (takeAt_spec hcs).1
                            exact grown_sim (H.kill b (H.lt hp)) c5' hlo hln2 (by rw [← hlo.1]; exact hol) (by rw [← hln2.1]; exact hnl)
                      · cases hf
                    · cases hf
                  · cases hf
              · cases hf
      · cases hf
    · cases hf
  · cases hf

theorem foldl_push_ints : ∀ (ns : List Int) (r : ByteArray), (ns.foldl (fun r n => r.push (UInt8.ofNat n.toNat)) r) = ⟨r.data ++ (ns.map fun n => UInt8.ofNat n.toNat).toArray⟩
  | [], r => by simp
  | n :: ns, r => by
    simp only [List.foldl_cons]
    rw [foldl_push_ints ns]
    simp [ByteArray.push]

theorem aconvert_sim (H : HR P ρ w0 h w) {src dst : TypeId} {x x' v : Value} {h' : AHeap} (hf : aconvert P h src dst x = some (v, h')) (hx : VR ρ x x') :
    Eff P ρ w0 v h' ((convert src dst x').run P w) := by
  unfold aconvert at hf
  split at hf
  · rename_i ds k k' n hs hd
    cases hf
    rw [hx.int_inv]
    exact ⟨ρ, _, w, by simp [convert, run_underlying hs, run_underlying hd, Conv.intToInt], Sub.refl ρ, H, .int _ _⟩
  · rename_i ds s hs hd
    cases hf
    cases hx
    exact ⟨ρ, _, w, by simp [convert, run_underlying hs, run_underlying hd], Sub.refl ρ, H, .string _⟩
  · rename_i e s hs hd
    split at hf
    · rename_i he
      cases hf
      cases hx
      have hge := grownCap_ge w s.size 0 e
      have hr := run_bytes_of_string (P := P) w src dst e s hs hd he
      generalize grownCap w s.size 0 e = c at hge hr
      have hl : LR ρ (s.data.toList.map fun b => Value.int .u8 b.toNat) (s.data.toList.map fun b => Value.int .u8 b.toNat) := LR.bytes _
      obtain ⟨h1, h2⟩ := hl.pre (bytesRow s c) (by simp only [bytesRow, Array.toList_append, Array.toList_map]; exact List.take_left)
      have hsz : (bytesRow s c).size = c := by
        simp only [bytesRow, Array.size_append, Array.size_map, Array.size_replicate]
        have : s.data.size = s.size := rfl
        omega
      refine ⟨_, _, _, hr, Sub.append _ _, H.drew'.newRow e 1 h1 h2 _ (fun i hi => by show (decide ((bytesRow s c).size ≤ i) && _) = false; rw [decide_eq_false (by omega)]; rfl), ?_⟩
      exact open_new (p := ⟨w.drew.heap.size, 0, 1, (bytesRow s c).size⟩) (H.last _) hge (by simp [hsz])
    · cases hf
  · rename_i e a len cap hs hd
    split at hf
    · rename_i he
      cases hf
      cases hx with
      | snil n c hc =>
        refine ⟨ρ, .string .empty, w, ?_, Sub.refl ρ, H, .string _⟩
        rw [run_convert_bytes_string w src dst e none len cap hs he hd]
        simp [Conv.bytesToString]
    · rename_i b o he
      simp only [Option.bind_eq_bind] at hf
      cases hr : areadN h b o len with
      | none => simp [hr] at hf
      | some cs =>
        simp only [hr, Option.bind_some] at hf
        cases hb : toBytes cs with
        | none => simp [hb] at hf
        | some l =>
          simp only [hb, Option.bind_some, Option.some.injEq] at hf
          cases hf
          have key : ∀ (p : Pl) (c' : Nat), ρ[b]? = some p → Eff P ρ w0 (.string ⟨l.toArray⟩) h ((convert src dst (.slice (some ⟨p.b, p.s + o, none⟩) len c')).run P w) := by
            intro p c' hp
            obtain ⟨l', h1, h2, h3⟩ := areadN_sim H hr hp
            have hns : ∃ ns : List Int, l' = ns.map (Value.int .u8) ∧ ns.map (fun n => UInt8.ofNat n.toNat) = l := by
              have : ∀ (cs l' : List Value) (l : List UInt8), toBytes cs = some l → LR ρ cs l' → ∃ ns : List Int, l' = ns.map (Value.int .u8) ∧ ns.map (fun n => UInt8.ofNat n.toNat) = l := by
                intro cs
                induction cs with
                | nil => intro l' l hl hlr; simp [toBytes] at hl; subst hl; rw [hlr.nil_left]; exact ⟨[], rfl, rfl⟩
                | cons v cs ih =>
                  intro l' l hl hlr
                  obtain ⟨y, ys, rfl, hv, hs⟩ := hlr.uncons
                  unfold toBytes at hl
                  split at hl
                  · rename_i e; cases e
                  · rename_i n r e
                    cases e
                    simp only [Option.map_eq_some_iff] at hl
                    obtain ⟨l2, hl2, rfl⟩ := hl
                    obtain ⟨ns, rfl, rfl⟩ := ih ys l2 hl2 hs
                    rw [hv.int_inv]
                    exact ⟨n :: ns, rfl, rfl⟩
                  · cases hl
              exact this cs l' l hb h1
            obtain ⟨ns, rfl, rfl⟩ := hns
            have hlen : ns.length = len := by have := h1.1; simp at this; omega
            refine ⟨ρ, _, w, ?_, Sub.refl ρ, H, .string _⟩
            rw [run_convert_bytes_string w src dst e _ len c' hs he hd]
            have hl := run_loadCells_of (P := P) _ _ _ h3
            simp only [List.length_map] at hl
            rw [hlen] at hl
            rw [run_bytesToString w _ len c' ns hl, foldl_push_ints]
            have he0 : ByteArray.empty.data = #[] := rfl
            rw [he0]
            simp
          cases hx with
          | slice i n c hp hc => exact key _ _ hp
          | «open» i n c hp hc hz => exact key _ _ hp
    · cases hf
  · cases hf

end Go.Am
