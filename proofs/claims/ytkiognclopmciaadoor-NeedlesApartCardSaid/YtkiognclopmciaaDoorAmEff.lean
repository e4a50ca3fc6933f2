/-
  The abstract machine: operations that make or write memory.
-/
import Derived.Test.YtkiognclopmciaaDoorAmPure3
namespace Go.Am
open Go Go.RowKit

variable {P : Program} {ρ : Ren} {w0 w : World} {h : AHeap}

theorem HR.congr {h' : AHeap} (H : HR P ρ w0 h w) (hn : h'.n = h.n) (hg : ∀ b, h'.get b = h.get b) : HR P ρ w0 h' w where
  len := by rw [hn]; exact H.len
  gone := fun b hb => by rw [hg]; exact H.gone b (by rw [← hn]; exact hb)
  obj := fun b p hp => by rw [hg]; exact H.obj b p hp
  inj := fun b c p q hbc hp hq hb hc => H.inj b c p q hbc hp hq (by rw [← hg]; exact hb) (by rw [← hg]; exact hc)
  below := H.below
  glob := H.glob

theorem HR.last (H : HR P ρ w0 h w) (p : Pl) : (ρ ++ [p])[h.n]? = some p := by
  rw [List.getElem?_append_right (by rw [H.len]; exact Nat.le_refl _), H.len]; simp

/-- A new row. -/
theorem HR.newRow (H : HR P ρ w0 h w) {c : List Value} {cc : Array Value} (el : TypeId) (e : Nat) (hl : c.length ≤ cc.size)
    (hv : ∀ (i : Nat) (x : Value), c[i]? = some x → ∃ y, cc[i]? = some y ∧ VR ρ x y) (fz : Nat × Nat) (hfz : ∀ i, i < cc.size → (decide (fz.1 ≤ i) && decide (i < fz.2)) = false) :
    HR P (ρ ++ [⟨w.heap.size, 0, e, cc.size⟩]) w0 (h.push (.cells c e)) (w.alloc (.cells cc el fz)) := by
  refine H.alloc (.cells cc el fz) (.cells c e) _ rfl ⟨H.below.size, rfl, cc, el, fz, ?_, rfl, by simpa using hl, hfz, fun i x hx => ?_⟩
  · show (w.heap.push _)[w.heap.size]? = _
    simp
  · obtain ⟨y, hy, hvr⟩ := hv i x hx
    exact ⟨y, by simpa using hy, hvr.mono (Sub.append _ _)⟩

theorem LR.pre {xs ys : List Value} (hl : LR ρ xs ys) (cc : Array Value) (hc : cc.toList.take ys.length = ys) :
    xs.length ≤ cc.size ∧ ∀ (i : Nat) (x : Value), xs[i]? = some x → ∃ y, cc[i]? = some y ∧ VR ρ x y := by
  have h1 : ys.length ≤ cc.size := by
    have := congrArg List.length hc
    simp at this
    omega
  refine ⟨by rw [hl.1]; exact h1, fun i x hx => ?_⟩
  obtain ⟨y, hy, hv⟩ := hl.get hx
  refine ⟨y, ?_, hv⟩
  rw [← hc] at hy
  have hi : i < ys.length := by rw [← hl.1]; exact (List.getElem?_eq_some_iff.1 hx).1
  rw [List.getElem?_take_of_lt hi] at hy
  simpa using hy

/-- What an operation yields. -/
def Nx (v : Value) (n : Next) : Prop := n = .value v ∨ (n = .skip ∧ v = undef)

/-- What becomes of the worlds. -/
def Eff (P : Program) (ρ : Ren) (w0 : World) (v : Value) (h' : AHeap) (r : Result Value) : Prop :=
  ∃ ρ' v' w', r = .ok v' w' ∧ Sub ρ ρ' ∧ HR P ρ' w0 h' w' ∧ VR ρ' v v'

theorem anew_sim (H : HR P ρ w0 h w) {c : List Value} {cc : Array Value} (el : TypeId) {v : Value} {h' : AHeap} {e : Nat} (hf : anew h c e = some (v, h')) (hl : LR ρ c cc.toList) :
    Eff P ρ w0 v h' (.ok (.pointer (some ⟨w.heap.size, 0, none⟩)) (w.alloc (.cells cc el))) := by
  cases hf
  refine ⟨_, _, _, rfl, Sub.append _ _, H.newRow el e (by have := hl.1; simpa using Nat.le_of_eq this) (fun i x hx => by obtain ⟨y, hy, hv⟩ := hl.get hx; exact ⟨y, by simpa using hy, hv⟩) (0, 0) (fun i _ => by simp), ?_⟩
  have := VR.ptr (ρ := ρ ++ [⟨w.heap.size, 0, e, cc.size⟩]) 0 (H.last _)
  simpa using this

theorem LR.made {z : Array Value} (hz : z.toList.all plainV = true) (h0 : z.size ≠ 0) (n : Nat) : LR ρ (madeCells z n).toList (madeCells z n).toList := by
  apply LR.plain
  rw [List.all_eq_true]
  intro x hx
  simp only [madeCells, Array.toList_map, List.mem_map] at hx
  obtain ⟨i, _, rfl⟩ := hx
  rw [List.all_eq_true] at hz
  apply hz
  have hlt : i % z.size < z.size := Nat.mod_lt _ (by omega)
  rw [getElem!_pos z (i % z.size) hlt]
  exact Array.getElem_mem_toList hlt

theorem azero_plain {t : TypeId} {z : Value} (hz : azero P t = some z) : z.cells.toList.all plainV = true := by
  unfold azero at hz
  cases he : (P.info? t).bind (·.zero) with
  | none => simp [he] at hz
  | some z' =>
    cases z' <;> simp only [he] at hz <;> first
      | (cases hz; done)
      | (split at hz
         · cases hz; assumption
         · cases hz)

theorem amakeSlice_sim (H : HR P ρ w0 h w) {t : TypeId} {a a' b b' v : Value} {h' : AHeap} (hf : amakeSlice P h t a b = some (v, h')) (ha : VR ρ a a') (hb : VR ρ b b') :
    Eff P ρ w0 v h' ((Instr.makeSlice t a' b').run P w) := by
  unfold amakeSlice at hf
  split at hf
  · rename_i elem kl l kc c hu
    rw [ha.int_inv, hb.int_inv]
    split at hf
    · rename_i i z hi hz
      split at hf
      · cases hf
      · rename_i hc
        simp only [Bool.or_eq_true, decide_eq_true_eq, not_or] at hc
        obtain ⟨⟨⟨⟨h1, h2⟩, h3⟩, h4⟩, h5⟩ := hc
        cases hf
        have hz1 := (azero_sim (ρ := ρ) hz).1
        simp only [hi, Option.bind_some] at hz1
        have hby : (i.bytes : Int) * c ≤ 140737488355328 := by
          have e : (i.bytes : Int) * c = ((i.bytes * c.toNat : Nat) : Int) := by rw [Int.natCast_mul, Int.toNat_of_nonneg (by omega)]
          rw [e]; omega
        have hr := run_make (P := P) w t elem i z hu hi hz1 kl kc l c (by omega) (by omega) (by omega) (by omega)
        refine ⟨_, _, _, hr, Sub.append _ _, H.newRow elem 0 (cc := madeCells z.cells (c.toNat * i.size)) (by simp) ?_ (0, 0) (fun i _ => by simp), ?_⟩
        · intro j x hx
          obtain ⟨y, hy, hv⟩ := (LR.made (ρ := ρ) (azero_plain hz) h5 (c.toNat * i.size)).get hx
          exact ⟨y, by simpa using hy, hv⟩
        · have := VR.slice (ρ := ρ ++ [⟨w.heap.size, 0, 0, (madeCells z.cells (c.toNat * i.size)).size⟩]) 0 l.toNat c.toNat (H.last _) (by unfold big; omega)
          simpa using this
    · cases hf
  · cases hf

theorem abuildSlice_sim (H : HR P ρ w0 h w) {t : TypeId} {len : Nat} {xs : Array (Nat × Value)} {l : List (Nat × Value)} {v : Value} {h' : AHeap}
    (hf : abuildSlice P h t len l = some (v, h')) (hx : PR ρ l xs.toList) : Eff P ρ w0 v h' ((Instr.buildSlice t len xs).run P w) := by
  unfold abuildSlice at hf
  split at hf
  · rename_i elem hu
    split at hf
    · rename_i size z hs hz
      have h2 := run_sizeOf (w := w) hs
      have hz1 := run_zeroValue (P := P) (w := w) (azero_sim (ρ := ρ) hz).1
      split at hf
      · rename_i h0
        split at hf
        · cases hf
          have hxs : xs = #[] := by
            have := hx.1
            simp at this
            exact this
          subst hxs
          have hr : (Instr.buildSlice t len #[]).run P w = .ok (.slice (some ⟨w.heap.size, 0, none⟩) len len) (w.alloc (.cells #[] elem)) := by
            simp [Instr.buildSlice, run_underlying hu, h2, h0.1, Instr.fill, newRow, Array.range_zero']
          refine ⟨_, _, _, hr, Sub.append _ _, H.newRow elem 0 (cc := #[]) (by simp) (fun i x hx => by simp at hx) (0, 0) (fun i _ => by simp), ?_⟩
          have := VR.slice (ρ := ρ ++ [⟨w.heap.size, 0, 0, (#[] : Array Value).size⟩]) 0 len len (H.last _) h0.2
          simpa using this
        · cases hf
      · rename_i h0
        split at hf
        · cases hf
        · rename_i hc
          simp only [Bool.or_eq_true, decide_eq_true_eq, not_or] at hc
          obtain ⟨⟨h3, h4⟩, h5⟩ := hc
          have h00 : ¬ len * size = 0 := fun e => h0 ⟨e, by omega⟩
          split at hf
          · rename_i cells hfl
            cases hf
            obtain ⟨cells', hf', hl⟩ := fill_sim (ρ := ρ) _ _ xs.toList _ _ _ hx (LR.made (ρ := ρ) (azero_plain hz) h5 (len * size)) hfl
            have hr : (Instr.buildSlice t len xs).run P w = .ok (.slice (some ⟨w.heap.size, 0, none⟩) len len) (w.alloc (.cells cells' elem)) := by
              have h16 : ¬ 16777216 < len * size := by omega
              unfold madeCells at hf'
              simp [Instr.buildSlice, run_underlying hu, h2, hz1, h00, h16, hf', newRow]
            refine ⟨_, _, _, hr, Sub.append _ _, H.newRow elem 0 (cc := cells') (by have := hl.1; simpa using Nat.le_of_eq this) (fun i x hx => by obtain ⟨y, hy, hv⟩ := hl.get hx; exact ⟨y, by simpa using hy, hv⟩) (0, 0) (fun i _ => by simp), ?_⟩
            have := VR.slice (ρ := ρ ++ [⟨w.heap.size, 0, 0, cells'.size⟩]) 0 len len (H.last _) (by omega)
            simpa using this
          · cases hf
    · cases hf
  · cases hf

/-! Stores. -/

theorem isCell_sim {x y : Value} (hv : VR ρ x y) (hc : isCell x = true) : y.oneCell' = true := by
  cases hv <;> first | rfl | (simp [isCell] at hc)

theorem heap_setCell_same (w : World) (b i : Nat) (v : Value) {cc : Array Value} {el : TypeId} {fz : Nat × Nat} (hb : w.heap[b]? = some (.cells cc el fz)) :
    (w.setCell ⟨b, i, none⟩ v).heap[b]? = some (.cells (cc.setIfInBounds i v) el fz) := by
  simp [World.setCell, Array.getElem?_modify, hb]

theorem Below.set (H : HR P ρ w0 h w) {b i : Nat} (hb : w0.heap.size ≤ b) (v : Value) : Below w0.heap.size w0 (w.setCell ⟨b, i, none⟩ v) := H.below.setCell hb v

theorem store_sim (H : HR P ρ w0 h w) {b i e : Nat} {c : List Value} {p : Pl} (hp : ρ[b]? = some p) (hg : h.get b = .cells c e) (hi : i < c.length) {x y : Value} (hv : VR ρ x y) (hc : isCell x = true) :
    ∃ w', (store ⟨p.b, p.s + i, none⟩ y).run P w = .ok () w' ∧ HR P ρ w0 (h.set b (.cells (c.set i x) e)) w' := by
  obtain ⟨h1, h2⟩ := H.obj b p hp
  rw [hg] at h2
  obtain ⟨hb, he, cc, el, fz, k1, k2, k3, k4, k5⟩ := h2
  have hlt : p.s + i < cc.size := by omega
  have hcell : w.cell? ⟨p.b, p.s + i, none⟩ = some cc[p.s + i] := by simp [World.cell?, k1, Array.getElem?_eq_getElem hlt]
  have hfz : w.frozen? ⟨p.b, p.s + i, none⟩ = false := by
    simp only [World.frozen?, k1]
    exact k4 (p.s + i) (by omega)
  refine ⟨w.setCell ⟨p.b, p.s + i, none⟩ y, by rw [run_store P w _ y .plain (isCell_sim hv hc), hcell]; simp [hfz], ?_⟩
  refine H.change hp (by rw [hg]; rfl) _ (Below.set H hb y) (by simp [World.setCell]) (fun k hk _ => Below.heap_setCell _ _ _ _ hk) ?_
  refine ⟨hb, he, cc.setIfInBounds (p.s + i) y, el, fz, heap_setCell_same w _ _ _ k1, by simpa using k2, by simpa using k3, k4, fun j z hz => ?_⟩
  by_cases hij : i = j
  · subst hij
    rw [List.getElem?_set_self hi] at hz
    cases hz
    exact ⟨y, by simp [hlt], hv⟩
  · rw [List.getElem?_set_ne hij] at hz
    obtain ⟨z', hz', hvz⟩ := k5 j z hz
    exact ⟨z', by rw [Array.getElem?_setIfInBounds_ne (by omega)]; exact hz', hvz⟩

theorem setAll_length : ∀ (vs c : List Value) (i : Nat), (setAll c i vs).length = c.length
  | [], c, i => rfl
  | v :: vs, c, i => by simp only [setAll]; rw [setAll_length vs]; simp

theorem stores_sim (b e k : Nat) (p : Pl) (hp : ρ[b]? = some p) : ∀ (xs ys : List Value) (i : Nat) (c : List Value) (h : AHeap) (w : World), HR P ρ w0 h w → h.get b = .cells c e → k + i + xs.length ≤ c.length →
    LR ρ xs ys → xs.all isCell = true →
    ∃ w', (storeCells ⟨p.b, p.s + k, none⟩ ys i).run P w = .ok () w' ∧ HR P ρ w0 (h.set b (.cells (setAll c (k + i) xs) e)) w' := by
  intro xs
  induction xs with
  | nil =>
    intro ys i c h w H hg hlen hl _
    rw [hl.nil_left]
    refine ⟨w, rfl, H.congr rfl fun d => ?_⟩
    have := H.lt hp
    rw [AHeap.get_set _ _ _ _]
    split
    · rename_i hd; rw [hd, hg]; rfl
    · rfl
  | cons x xs ih =>
    intro ys i c h w H hg hlen hl hc
    obtain ⟨y, ys, rfl, hv, hs⟩ := hl.uncons
    simp only [List.all_cons, Bool.and_eq_true] at hc
    simp only [List.length_cons] at hlen
    obtain ⟨w1, hr1, H1⟩ := store_sim H hp hg (i := k + i) (by omega) hv hc.1
    have hb := H.lt hp
    have hg1 : (h.set b (.cells (c.set (k + i) x) e)).get b = .cells (c.set (k + i) x) e := by
      rw [AHeap.get_set _ _ _ _, if_pos rfl]
    obtain ⟨w2, hr2, H2⟩ := ih ys (i + 1) (c.set (k + i) x) _ w1 H1 hg1 (by simp; omega) hs hc.2
    refine ⟨w2, ?_, H2.congr rfl fun d => ?_⟩
    · simp only [storeCells, Sem.run_bind, Addr.add_none, Nat.add_assoc]
      rw [hr1]
      exact hr2
    · rw [AHeap.get_set _ _ _ _, AHeap.get_set _ _ _ _, AHeap.get_set _ _ _ _]
      split
      · rfl
      · rfl

theorem awriteN_sim (H : HR P ρ w0 h w) {b i : Nat} {p : Pl} {xs ys : List Value} {h' : AHeap} (hf : awriteN h b i xs = some h') (hp : ρ[b]? = some p) (hl : LR ρ xs ys) :
    ∃ w', (storeCells ⟨p.b, p.s + i, none⟩ ys).run P w = .ok () w' ∧ HR P ρ w0 h' w' := by
  unfold awriteN at hf
  split at hf
  · rename_i c e hg
    split at hf
    · rename_i hc
      simp only [Bool.and_eq_true, decide_eq_true_eq] at hc
      cases hf
      obtain ⟨w', h1, h2⟩ := stores_sim b e i p hp xs ys 0 c h w H hg (by omega) hl hc.2
      exact ⟨w', h1, by simpa using h2⟩
    · cases hf
  · cases hf

theorem astore_sim (H : HR P ρ w0 h w) {t : TypeId} {a a' x x' : Value} {h' : AHeap} (hf : astore P h t a x = some h') (ha : VR ρ a a') (hx : VR ρ x x') :
    ∃ w', (Instr.storeAt t a' x').run P w = .ok () w' ∧ HR P ρ w0 h' w' := by
  unfold astore at hf
  split at hf
  · rename_i b i
    cases ha with
    | ptr i hp =>
      rename_i p
      split at hf
      · rename_i hs
        have hs' := eq_of_beq hs
        have h2 := run_sizeOf (w := w) hs'
        have hl := hx.cells
        have hsz : x.cells.size = x'.cells.size := by simpa using hl.1
        obtain ⟨w', h3, h4⟩ := awriteN_sim H hf hp hl
        refine ⟨w', ?_, h4⟩
        simp [Instr.storeAt, Instr.sureAddr, storeVar, h2, hsz, h3]
      · cases hf
  · cases hf

end Go.Am
