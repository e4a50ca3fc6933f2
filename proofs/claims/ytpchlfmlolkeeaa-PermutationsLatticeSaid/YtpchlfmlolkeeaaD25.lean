/-
  The data layer: arguments of any shape, read out of a world.
-/
import Derived.Test.YtpchlfmlolkeeaaD24
import Derived.Test.YtpchlfmlolkeeaaAmB
import Derived.Carry
set_option linter.unusedSimpArgs false
set_option linter.unusedVariables false
namespace Go.Am
open Go Go.RowKit Go.ChangeShapes Go.WideShapes Go.ChangeAt

variable {P : Program} {H : Type} {enc : TypeId × Value → H} {W : World}

def Ext (h h' : AHeap) : Prop := h.n ≤ h'.n ∧ ∀ b, b < h.n → h'.get b = h.get b
def isRo (h : AHeap) (b : Nat) : Prop := ∃ c, h.get b = .ro c

theorem Ext.refl (h : AHeap) : Ext h h := ⟨Nat.le_refl _, fun _ _ => rfl⟩
theorem Ext.trans {a b c : AHeap} (h : Ext a b) (k : Ext b c) : Ext a c := ⟨Nat.le_trans h.1 k.1, fun i hi => (k.2 i (Nat.lt_of_lt_of_le hi h.1)).trans (h.2 i hi)⟩
theorem Ext.stays {h h' : AHeap} (e : Ext h h') : Stays h h' (isRo h) (isRo h') := fun b hb ⟨c, hc⟩ => ⟨Nat.lt_of_lt_of_le hb e.1, ⟨c, (e.2 b hb).trans hc⟩, e.2 b hb⟩
theorem Ext.push (h : AHeap) (o : AObj) : Ext h (h.push o) := ⟨by simp, fun b hb => by rw [AHeap.get_push, if_neg (by omega)]⟩

/-- How many bytes an element takes. -/
def Ty.bytes : Ty → Nat
  | _ => 1

/-- Data that a world can hold. -/
def wfD : (t : Ty) → t.D → Prop
  | .int k, (x : Int) => k.min ≤ x ∧ x ≤ k.max
  | .bool, _ => True
  | .str, (s : ByteArray) => s.size ≤ reachBytes
  | .unit, _ => True
  | .pair a b, (x : a.D × b.D) => wfD a x.1 ∧ wfD b x.2
  | .sl e, (s : Sl e.D) => (∀ x ∈ s.l, wfD e x) ∧ ∃ c, s.cap = some c ∧ s.l.length ≤ c ∧ c * e.bytes ≤ reachBytes ∧ c ≤ reachBytes

def fldsOk (P : Program) (ok : TypeId → Ty → Bool) : Nat → List Field → Ty → Bool
  | _, [], .unit => true
  | off, f :: fs, .pair a b => Nat.beq f.offset off && ok f.type a && Nat.beq (P.cellsOf f.type) a.size && fldsOk P ok (off + a.size) fs b
  | _, _, _ => false

def tyOk (P : Program) : Nat → TypeId → Ty → Bool
  | 0, _, _ => false
  | d + 1, t, τ => match P.underlying t with
    | some (.int k) => decide (τ = .int k)
    | some .bool => decide (τ = .bool)
    | some .string => decide (τ = .str)
    | some (.slice e) => match τ with
      | .sl τ' => tyOk P d e τ' && Nat.blt 0 τ'.size && Nat.beq (P.cellsOf e) τ'.size && Nat.blt 0 (P.bytesOf e)
      | _ => false
    | some (.struct fs) => fldsOk P (tyOk P d) 0 fs.toList τ && Nat.beq (P.cellsOf t) τ.size
    | _ => false

structure Opn (P : Program) (W : World) (ρ ρ' : Ren) (h h' : AHeap) : Prop where
  sub : Sub ρ ρ'
  hr : HR P ρ' W h' W
  ext : Ext h h'

def OpenT (P : Program) (enc : TypeId × Value → H) (W : World) (t : TypeId) (τ : Ty) : Prop :=
  ∀ (fuel : Nat) (cs : List Value) (x : DataW H × List MemPlace) (ρ : Ren) (h : AHeap), HR P ρ W h W → DataW.trod enc P W 0 (fun _ => true) true fuel t cs = some x → (x.1.weights P t).all (· ≤ reachBytes) = true →
    ∃ ρ' h' cs' y, Opn P W ρ ρ' h h' ∧ LR ρ' cs' cs ∧ RdC h' (isRo h') τ cs' y ∧ wfD τ y

theorem weightsAll_get {e : TypeId} : ∀ (l : List (DataW H)), (DataW.weightsAll P e l).all (· ≤ reachBytes) = true → ∀ d ∈ l, (d.weights P e).all (· ≤ reachBytes) = true
  | [], _, d, hd => by simp at hd
  | x :: r, h, d, hd => by
    simp only [DataW.weightsAll, List.all_append, Bool.and_eq_true] at h
    cases hd with
    | head => exact h.1
    | tail _ hd => exact weightsAll_get r h.2 d hd

theorem LR.drop {ρ : Ren} {xs ys : List Value} (h : LR ρ xs ys) (n : Nat) : LR ρ (xs.drop n) (ys.drop n) :=
  ⟨by simp [h.1], fun i x y hx hy => h.2 (n + i) x y (by simpa using hx) (by simpa using hy)⟩

theorem add_none (b o m : Nat) : Addr.add ⟨b, o, none⟩ m = ⟨b, o + m, none⟩ := by
  unfold Addr.add
  split
  · rename_i h; subst h; rfl
  · rfl

theorem open_elems {e : TypeId} {τ : Ty} {sz : Nat} (hsz : P.cellsOf e = sz) (hτ : τ.size = sz) (IH : OpenT P enc W e τ) {b o len n : Nat} {elems : List (DataW H × List MemPlace)}
    (hel : ∀ i, i < len → (W.cells? 0 (Addr.add ⟨b, o, none⟩ (i * P.cellsOf e)) (P.cellsOf e)).bind (DataW.trod enc P W 0 (fun _ => true) true n e) = elems[i]?) (hl : elems.length = len) (hw : ∀ x ∈ elems, (x.1.weights P e).all (· ≤ reachBytes) = true) :
    ∀ k, k ≤ len → ∀ (ρ : Ren) (h : AHeap), HR P ρ W h W → ∃ ρ' h' cs' ys, Opn P W ρ ρ' h h' ∧ cs'.length = k * sz ∧
      (∀ (i : Nat) (x : Value), cs'[i]? = some x → ∃ y, W.cell? ⟨b, o + i, none⟩ = some y ∧ VR ρ' x y) ∧ Cells (RdC h' (isRo h') τ) cs' ys ∧ ys.length = k ∧ ∀ y ∈ ys, wfD τ y := by
  intro k
  induction k with
  | zero => exact fun _ ρ h Hh => ⟨ρ, h, [], [], ⟨.refl _, Hh, .refl _⟩, by simp, fun i x hx => by simp at hx, rfl, rfl, fun y hy => by simp at hy⟩
  | succ k ih =>
    intro hk ρ h Hh
    obtain ⟨ρ1, h1, c1, ys, O1, l1, r1, q1, n1, w1⟩ := ih (by omega) ρ h Hh
    have he := hel k (by omega)
    rw [List.getElem?_eq_getElem (by omega)] at he
    simp only [Option.bind_eq_some_iff] at he
    obtain ⟨ck, g1, g2⟩ := he
    obtain ⟨ρ2, h2, c2, y, O2, lr, q2, w2⟩ := IH n ck _ ρ1 h1 O1.hr g2 (hw _ (List.getElem_mem _))
    rw [add_none, hsz] at g1
    obtain ⟨_, g3, g4⟩ := World.cells?_some g1
    refine ⟨ρ2, h2, c1 ++ c2, ys ++ [y], ⟨O1.sub.trans O2.sub, O2.hr, O1.ext.trans O2.ext⟩, ?_, fun i x hx => ?_, ?_, by simp [n1], fun z hz => ?_⟩
    · have := lr.1
      rw [List.length_append, l1, this, g3, Nat.succ_mul]
    · by_cases hi : i < c1.length
      · rw [List.getElem?_append_left hi] at hx
        obtain ⟨y, hy, hv⟩ := r1 i x hx
        exact ⟨y, hy, hv.mono O2.sub⟩
      · rw [List.getElem?_append_right (by omega)] at hx
        obtain ⟨y, hy, hv⟩ := lr.get hx
        refine ⟨y, ?_, hv⟩
        have hi2 : i - c1.length < ck.length := (List.getElem?_eq_some_iff.1 hy).1
        have := g4 (i - c1.length) (by omega)
        rw [add_none, hy] at this
        rw [← this]
        congr 2
        omega
    · exact Cells.append ys [y] c1 c2 (Cells.mono (RdC.mono O2.ext.stays τ) _ _ q1) ⟨c2, [], by simp, q2, rfl⟩
    · rw [List.mem_append] at hz
      rcases hz with hz | hz
      · exact w1 z hz
      · simp at hz; subst hz; exact w2

theorem open_flds {d n : Nat} {cs : List Value} (IH : ∀ (t : TypeId) (τ : Ty), tyOk P d t τ = true → OpenT P enc W t τ) : ∀ (fs : List Field) (τ : Ty) (off : Nat), fldsOk P (tyOk P d) off fs τ = true →
    (∀ f ∈ fs, ∃ x, DataW.trod enc P W 0 (fun _ => true) true n f.type ((cs.drop f.offset).take (P.cellsOf f.type)) = some x ∧ (x.1.weights P f.type).all (· ≤ reachBytes) = true) → cs.length = off + τ.size → ∀ (ρ : Ren) (h : AHeap), HR P ρ W h W →
    ∃ ρ' h' cs' y, Opn P W ρ ρ' h h' ∧ LR ρ' cs' (cs.drop off) ∧ RdC h' (isRo h') τ cs' y ∧ wfD τ y
  | [], .unit, off, _, _, hl, ρ, h, Hh => ⟨ρ, h, [], (), ⟨.refl _, Hh, .refl _⟩, by
      have : cs.drop off = [] := List.drop_eq_nil_of_le (by simp [Ty.size] at hl; omega)
      rw [this]; exact .nil _, rfl, trivial⟩
  | f :: fs, .pair a b, off, hok, hx, hl, ρ, h, Hh => by
    simp only [fldsOk, Bool.and_eq_true] at hok
    obtain ⟨⟨⟨k1, k2⟩, k3⟩, k4⟩ := hok
    have k1 := Nat.eq_of_beq_eq_true k1
    have k3 := Nat.eq_of_beq_eq_true k3
    obtain ⟨x, hx0, hxw⟩ := hx f (by simp)
    rw [k1, k3] at hx0
    obtain ⟨ρ1, h1, c1, y1, O1, lr1, q1, w1⟩ := IH f.type a k2 n _ x ρ h Hh hx0 hxw
    obtain ⟨ρ2, h2, c2, y2, O2, lr2, q2, w2⟩ := open_flds IH fs b (off + a.size) k4 (fun f hf => hx f (by simp [hf])) (by simp [Ty.size] at hl; omega) ρ1 h1 O1.hr
    refine ⟨ρ2, h2, c1 ++ c2, (y1, y2), ⟨O1.sub.trans O2.sub, O2.hr, O1.ext.trans O2.ext⟩, ?_, ⟨c1, c2, rfl, RdC.mono O2.ext.stays a _ _ q1, q2⟩, w1, w2⟩
    have : cs.drop off = (cs.drop off).take a.size ++ cs.drop (off + a.size) := by
      rw [← List.drop_drop, List.take_append_drop]
    rw [this]
    exact (lr1.mono O2.sub).append lr2
  | [], .int _, _, h, _, _, _, _, _ | [], .bool, _, h, _, _, _, _, _ | [], .str, _, h, _, _, _, _, _ | [], .sl _, _, h, _, _, _, _, _ | [], .pair .., _, h, _, _, _, _, _ => by simp [fldsOk] at h
  | _ :: _, .int _, _, h, _, _, _, _, _ | _ :: _, .bool, _, h, _, _, _, _, _ | _ :: _, .str, _, h, _, _, _, _, _ | _ :: _, .sl _, _, h, _, _, _, _, _ | _ :: _, .unit, _, h, _, _, _, _, _ => by simp [fldsOk] at h

theorem cell_block {b o : Nat} {v : Value} (h : W.cell? ⟨b, o, none⟩ = some v) : ∃ cc el fz, W.heap[b]? = some (.cells cc el fz) ∧ o < cc.size := by
  unfold World.cell? at h
  split at h
  · rename_i c el fz hc
    simp at h
    exact ⟨c, el, fz, hc, (Array.getElem?_eq_some_iff.1 h).1⟩
  · cases h

theorem pushRo {ρ : Ren} {h : AHeap} (Hh : HR P ρ W h W) {b o : Nat} {c : List Value} {cc : Array Value} {el : TypeId} {fz : Nat × Nat} (hb : W.heap[b]? = some (.cells cc el fz)) (ho : o < cc.size)
    (hc : ∀ (i : Nat) (x : Value), c[i]? = some x → ∃ y, W.cell? ⟨b, o + i, none⟩ = some y ∧ VR ρ x y) : HR P (ρ ++ [⟨b, o, 0, cc.size⟩]) W (h.push (.ro c)) W := by
  have hlt : b < W.heap.size := (Array.getElem?_eq_some_iff.1 hb).1
  refine Hh.put ⟨b, o, 0, cc.size⟩ (.ro c) hlt ⟨hlt, cc, el, fz, hb, ?_, fun i x hx => ?_⟩ (fun _ _ _ _ hl => by cases hl)
  · show o + c.length ≤ cc.size
    by_cases hcl : c.length = 0
    · omega
    · obtain ⟨y, hy, _⟩ := hc (c.length - 1) c[c.length - 1] (List.getElem?_eq_getElem (by omega))
      unfold World.cell? at hy
      rw [hb] at hy
      simp at hy
      have := (Array.getElem?_eq_some_iff.1 hy).1
      omega
  · obtain ⟨y, hy, hv⟩ := hc i x hx
    refine ⟨y, ?_, hv.mono (Sub.append _ _)⟩
    unfold World.cell? at hy
    rw [hb] at hy
    simpa using hy

theorem open_ty : ∀ (d : Nat) (t : TypeId) (τ : Ty), tyOk P d t τ = true → OpenT P enc W t τ := by
  intro d
  induction d with
  | zero => intro t τ h; simp [tyOk] at h
  | succ d ih =>
    intro t τ hok fuel cs x ρ h Hh hx hwt
    unfold tyOk at hok
    split at hok
    · rename_i k hu
      simp only [decide_eq_true_eq] at hok
      subst hok
      obtain ⟨n, rfl, _, hw⟩ := DataW.trod_int hu hx
      refine ⟨ρ, h, [.int k n], n, ⟨.refl _, Hh, .refl _⟩, .cons (.int _ _) (.nil _), rfl, ?_⟩
      simp only [Lit.wf, Bool.and_eq_true, decide_eq_true_eq] at hw
      exact hw
    · rename_i hu
      simp only [decide_eq_true_eq] at hok
      subst hok
      obtain ⟨n, rfl, _⟩ := DataW.trod_bool hu hx
      exact ⟨ρ, h, [.bool n], n, ⟨.refl _, Hh, .refl _⟩, .cons (.bool _) (.nil _), rfl, trivial⟩
    · rename_i hu
      simp only [decide_eq_true_eq] at hok
      subst hok
      obtain ⟨n, rfl, rfl, hw⟩ := DataW.trod_string hu hx
      refine ⟨ρ, h, [.string n], n, ⟨.refl _, Hh, .refl _⟩, .cons (.string _) (.nil _), rfl, ?_⟩
      simp only [DataW.weights, List.all_cons, List.all_nil, Bool.and_true, decide_eq_true_eq] at hwt
      show n.size ≤ reachBytes
      simpa using hwt
    · rename_i e hu
      split at hok
      · rename_i τ'
        simp only [Bool.and_eq_true] at hok
        obtain ⟨⟨⟨k1, k2⟩, k3⟩, k4⟩ := hok
        rw [Nat.blt_eq] at k4
        have k3 := Nat.eq_of_beq_eq_true k3
        rw [Nat.blt_eq] at k2
        rcases DataW.trod_slice hu hx with ⟨rfl, _⟩ | ⟨a, len, cap, elems, rest, n, rfl, rfl, rfl, _, hlc, hcm, hel, hread, hrest, _⟩
        · exact ⟨ρ, h, [.slice none 0 0], ⟨[], some 0⟩, ⟨.refl _, Hh, .refl _⟩, .cons (.snil _ _ big_pos) (.nil _), ⟨_, rfl, .inl ⟨0, rfl, rfl, .inl ⟨.inl rfl, .inr rfl⟩⟩⟩, fun _ hx => by simp at hx, 0, rfl, Nat.le_refl _, by simp, Nat.zero_le _⟩
        · by_cases hcap : cap = 0
          · subst hcap
            have hlen0 : len = 0 := by omega
            subst hlen0
            exact ⟨ρ, h, [.slice none 0 (big + 1)], ⟨[], some 0⟩, ⟨.refl _, Hh, .refl _⟩, .cons (.void a 0 (big + 1) (.inr ⟨rfl, rfl⟩)) (.nil _), ⟨_, rfl, .inl ⟨big + 1, rfl, rfl, .inl ⟨.inr rfl, .inr rfl⟩⟩⟩, fun _ hx => by simp at hx, 0, rfl, Nat.le_refl _, by simp, Nat.zero_le _⟩
          · obtain ⟨hrl, hrr⟩ := hrest rfl
            simp only [DataW.weights, hu, List.all_cons, List.all_append, Bool.and_eq_true, decide_eq_true_eq, List.length_map] at hwt
            obtain ⟨hb1, hb2, hb3⟩ := hwt
            have hcr : cap ≤ reachBytes := by
              have h1 : (elems.length + rest.length) * 1 ≤ (elems.length + rest.length) * P.bytesOf e := Nat.mul_le_mul_left _ k4
              omega
            have hbig : cap < big := by unfold big; unfold reachBytes at hcr; omega
            have hwe : ∀ x ∈ elems, (x.1.weights P e).all (· ≤ reachBytes) = true := fun x hx => weightsAll_get _ hb2 _ (List.mem_map_of_mem hx)
            -- its first cell can be read
            have hfirst : ∃ v, W.cell? a = some v := by
              have key : ∀ r : List Value, W.cells? 0 (a.add (0 * P.cellsOf e)) (P.cellsOf e) = some r → ∃ v, W.cell? a = some v := by
                intro r hr
                obtain ⟨_, g3, g4⟩ := World.cells?_some hr
                have := g4 0 (by omega)
                rw [Nat.zero_mul] at this
                have e0 : (a.add 0).add 0 = a := by simp [Addr.add]
                rw [e0] at this
                exact ⟨_, this.trans (List.getElem?_eq_getElem (by omega))⟩
              by_cases h0 : 0 < len
              · have := hread 0 h0
                rw [List.getElem?_eq_getElem (by omega)] at this
                simp only [Option.bind_eq_some_iff] at this
                obtain ⟨r, hr, _⟩ := this
                exact key r hr
              · have := hrr 0 (by omega)
                rw [List.getElem?_eq_getElem (by omega)] at this
                simp only [Option.bind_eq_some_iff] at this
                obtain ⟨r, hr, _⟩ := this
                have hl0 : len + 0 = 0 := by omega
                rw [hl0] at hr
                exact key r hr
            obtain ⟨v, hv⟩ := hfirst
            obtain ⟨b, o, sp⟩ := a
            have hsp : sp = none := by
              unfold World.cell? at hv
              split at hv
              · cases sp with
                | none => rfl
                | some _ => simp at hv
              · cases hv
            subst hsp
            obtain ⟨cc, el, fz, hb, ho⟩ := cell_block hv
            obtain ⟨ρ1, h1, c1, ys, O1, l1, r1, q1, n1, w1⟩ := open_elems (sz := τ'.size) k3 rfl (ih e τ' k1) hread hel hwe len (Nat.le_refl _) ρ h Hh
            have Hp := pushRo O1.hr hb ho r1
            have e1 := Ext.push h1 (.ro c1)
            have hlast := O1.hr.last ⟨b, o, 0, cc.size⟩
            refine ⟨_, _, [.slice (some ⟨h1.n, 0, none⟩) len cap], ⟨ys, some cap⟩, ⟨O1.sub.trans (Sub.append _ _), Hp, O1.ext.trans e1⟩, .cons (.slice 0 len cap hlast hbig) (.nil _), ⟨_, rfl, .inr ⟨h1.n, 0, cap, c1, by rw [n1], by simp, ⟨c1, by rw [AHeap.get_push, if_pos rfl]⟩, by rw [n1]; exact hlc, by rw [n1]; omega, fun k hk => ?_, fun hc => absurd hbig hc, ?_, Cells.mono (RdC.mono e1.stays τ') _ _ q1⟩⟩, w1, cap, rfl, by rw [n1]; exact hlc, by simpa [Ty.bytes] using hcr, hcr⟩
            · cases hk; exact ⟨rfl, hbig⟩
            · unfold areadN
              rw [AHeap.get_push, if_pos rfl]
              show takeAt c1 0 _ = some c1
              rw [n1, ← l1]
              simp [takeAt]
      · cases hok
    · rename_i fs hu
      simp only [Bool.and_eq_true] at hok
      obtain ⟨xs, n, rfl, rfl, hl, hxs, hf⟩ := DataW.trod_struct hu hx
      have hsz := Nat.eq_of_beq_eq_true hok.2
      simp only [DataW.weights, hu] at hwt
      have hws : ∀ (i : Nat) (f : Field), fs[i]? = some f → ∀ x, xs[i]? = some x → (x.1.weights P f.type).all (· ≤ reachBytes) = true := by
        have key : ∀ (fs : List Field) (xs : List (DataW H × List MemPlace)), (DataW.weightsEach P (fs.map (·.type)) (xs.map (·.1))).all (· ≤ reachBytes) = true → ∀ (i : Nat) (f : Field), fs[i]? = some f → ∀ x, xs[i]? = some x → (x.1.weights P f.type).all (· ≤ reachBytes) = true := by
          intro fs
          induction fs with
          | nil => intro xs _ i f hf; simp at hf
          | cons g fs ih =>
            intro xs hw i f hf x hx
            cases xs with
            | nil => simp at hx
            | cons y xs =>
              simp only [List.map_cons, DataW.weightsEach, List.all_append, Bool.and_eq_true] at hw
              cases i with
              | zero => simp at hf hx; subst hf; subst hx; exact hw.1
              | succ i => exact ih xs hw.2 i f (by simpa using hf) x (by simpa using hx)
        exact fun i f hf x hx => key fs.toList xs hwt i f (by simpa using hf) x hx
      obtain ⟨ρ', h', cs', y, O, lr, q, w⟩ := open_flds (n := n) (cs := cs) ih fs.toList τ 0 hok.1 (fun f hm => by
        obtain ⟨i, hi⟩ := List.getElem?_of_mem hm
        have hfi : fs[i]? = some f := by simpa using hi
        have := hf i f hfi
        have hlt : i < xs.length := by rw [hxs]; exact (Array.getElem?_eq_some_iff.1 hfi).1
        rw [List.getElem?_eq_getElem hlt] at this
        exact ⟨_, this, hws i f hfi _ (List.getElem?_eq_getElem hlt)⟩) (by omega) ρ h Hh
      exact ⟨ρ', h', cs', y, O, by simpa using lr, q, w⟩
    · cases hok

end Go.Am

