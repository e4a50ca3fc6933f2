/-
  The logic: the rule for a region that draws its order.
-/
import Derived.Test.YtkiognclopmciaaDoorAmDrawL
import Derived.Test.YtkiognclopmciaaDoorAmDraw3
namespace Go.Am
open Go Go.RowKit

variable {P : Program} {w0 : World} {ops : Array Oper} {n n0 : Nat} {heapy : Nat → Bool} {T : Nat → PT} {Hh : Nat → AHeap} {V : Nat → Value}

theorem goL_sim (R : ROkL ops heapy) (C : CanonL P n ops heapy T Hh V) (b : Frame) (hbk : b.kind = .normal) (todo : List Item) (cs : List Frame) :
    ∀ (fuel t : Nat) (ρ : Ren) (listed : Array Bool) (a : Act) (w : World), DInvL P ρ w0 n ops heapy T Hh V listed a w → left ops.size listed ≤ fuel →
    ∃ ρ' a' w' listed', Sub ρ ρ' ∧ a'.defers = a.defers ∧ DInvL P ρ' w0 n ops heapy T Hh V listed' a' w' ∧ (∀ i, i < ops.size → listed'.getD i false = true) ∧
      Steps P (lone (b.atR a (.inRegion ops (Region.linearise.go .any ops fuel t listed []) :: todo)) cs w) (lone (b.atR a' (.inRegion ops [] :: todo)) cs w') := by
  intro fuel
  induction fuel with
  | zero =>
    intro t ρ listed a w D hl
    refine ⟨ρ, a, w, listed, Sub.refl ρ, rfl, D, fun i hi => ?_, Steps.refl _ _⟩
    cases hli : listed.getD i false with
    | true => rfl
    | false =>
      have : 0 < left ops.size listed := List.countP_pos_iff.2 ⟨i, List.mem_range.2 hi, by rw [hli]; rfl⟩
      omega
  | succ fuel ih =>
    intro t ρ listed a w D hl
    simp only [Region.linearise.go]
    change ∃ ρ' a' w' listed', Sub ρ ρ' ∧ a'.defers = a.defers ∧ DInvL P ρ' w0 n ops heapy T Hh V listed' a' w' ∧ (∀ i, i < ops.size → listed'.getD i false = true) ∧
      Steps P (lone (b.atR a (.inRegion ops (match (Region.ready .any ops listed)[t % (Region.ready .any ops listed).length]? with
        | some i => Region.linearise.go .any ops fuel (t / (Region.ready .any ops listed).length) (listed.setIfInBounds i true) [i]
        | none => [].reverse) :: todo)) cs w) (lone (b.atR a' (.inRegion ops [] :: todo)) cs w')
    cases hr : (Region.ready .any ops listed)[t % (Region.ready .any ops listed).length]? with
    | none =>
      have hnil : Region.ready .any ops listed = [] := by
        cases he : Region.ready .any ops listed with
        | nil => rfl
        | cons x xs =>
          rw [he] at hr
          have hlt : t % (x :: xs).length < (x :: xs).length := Nat.mod_lt _ (by simp)
          rw [List.getElem?_eq_getElem hlt] at hr
          cases hr
      refine ⟨ρ, a, w, listed, Sub.refl ρ, rfl, D, ?_, Steps.refl _ _⟩
      intro i
      induction i using Nat.strongRecOn with
      | _ i ihi =>
        intro hi
        cases hli : listed.getD i false with
        | true => rfl
        | false =>
          exfalso
          have ho : ops[i]? = some ops[i] := Array.getElem?_eq_getElem hi
          have hmem : i ∈ Region.ready .any ops listed := by
            refine mem_ready.2 ⟨?_, ops[i], ho, fun e he hb => ?_⟩
            · have : i < listed.size := by rw [D.size]; exact hi
              simp only [Array.getD_eq_getD_getElem?, Array.getElem?_eq_getElem this] at hli ⊢
              exact hli
            · have := R.lt i _ ho e (by simpa using he) hb
              exact ihi e.on this (by omega)
          rw [hnil] at hmem
          cases hmem
    | some i =>
      have hmem : i ∈ Region.ready .any ops listed := List.mem_of_getElem? hr
      obtain ⟨hun, o, ho, hall⟩ := mem_ready.1 hmem
      have hi : i < ops.size := (Array.getElem?_eq_some_iff.1 ho).1
      have hun' : listed.getD i false = false := by
        rcases Nat.lt_or_ge i listed.size with h' | h'
        · simp [h'] at hun ⊢; exact hun
        · simp [Array.getElem?_eq_none h'] at hun
      simp only []
      rw [linearise_go_acc, List.reverse_singleton, List.singleton_append]
      obtain ⟨ρ1, a1, w1, hs1, hd1, D1, hst1⟩ := D.step R C ho hun' (fun e he hb => hall e (by simpa using he) hb) b hbk (Region.linearise.go .any ops fuel (t / (Region.ready .any ops listed).length) (listed.setIfInBounds i true) []) todo cs
      have hless : left ops.size (listed.setIfInBounds i true) < left ops.size listed := by
        refine countP_less (i := i) (by rw [hun']; rfl) ?_ (fun j hj => ?_) _ (List.mem_range.2 hi)
        · rw [getD_set (by rw [D.size]; exact hi), if_pos rfl]; rfl
        · rw [getD_set (by rw [D.size]; exact hi)] at hj
          split at hj
          · cases hj
          · exact hj
      obtain ⟨ρ2, a2, w2, l2, hs2, hd2, D2, hall2, hst2⟩ := ih (t / (Region.ready .any ops listed).length) ρ1 (listed.setIfInBounds i true) a1 w1 D1 (by omega)
      exact ⟨ρ2, a2, w2, l2, hs1.trans hs2, hd2.trans hd1, D2, hall2, hst1.trans hst2⟩

/-- What is asked where an operation that only reads may stand elsewhere. -/
def Extra (P : Program) (ops : Array Oper) (tr : List (PT × Value × Bool)) (hs : List AHeap) : List (Nat × Nat) → Prop
  | [] => True
  | (k, m) :: r => (match ops.toList[k]?, tr[k]?, hs[m]? with | some o, some (t, v, true), some h => OpX P o t h v h | _, _, _ => True) ∧ Extra P ops tr hs r

theorem Extra.get {tr : List (PT × Value × Bool)} {hs : List AHeap} {k m : Nat} : ∀ (ex : List (Nat × Nat)), Extra P ops tr hs ex → (k, m) ∈ ex → match ops.toList[k]?, tr[k]?, hs[m]? with | some o, some (t, v, true), some h => OpX P o t h v h | _, _, _ => True
  | [], _, h => by cases h
  | (k', m') :: r, h, hm => by
    cases hm with
    | head => exact h.1
    | tail _ hm => exact Extra.get r h.2 hm

/-- A region that draws its order, walked through in the order of the text. -/
def ADr (P : Program) (ops : Array Oper) (heapy : Nat → Bool) (ex : List (Nat × Nat)) (K : AS → Prop) : List Oper → Nat → AS → List (PT × Value × Bool) → List AHeap → Prop
  | [], _, s, tr, hs => Extra P ops tr.reverse (s.h :: hs).reverse ex ∧ K s
  | o :: r, k, s, tr, hs =>
    (pwanted ops s.t o = some true ∧ ∃ v h', OpX P o s.t s.h v h' ∧ (heapy k = false → h' = s.h) ∧ ADr P ops heapy ex K r (k + 1) ⟨upd s.t o.dst v, h', s.d⟩ ((s.t, v, true) :: tr) (s.h :: hs)) ∨
    (pwanted ops s.t o = some false ∧ ADr P ops heapy ex K r (k + 1) ⟨upd s.t o.dst undef, s.h, s.d⟩ ((s.t, undef, false) :: tr) (s.h :: hs))

theorem adr_states {ex : List (Nat × Nat)} {K : AS → Prop} : ∀ (l : List Oper) (k : Nat) (s : AS) (tr : List (PT × Value × Bool)) (hs : List AHeap), ADr P ops heapy ex K l k s tr hs → l = ops.toList.drop k → k ≤ ops.size →
    ∃ (T : Nat → PT) (Hh : Nat → AHeap) (V : Nat → Value) (W : Nat → Bool) (s' : AS), T k = s.t ∧ Hh k = s.h ∧ T ops.size = s'.t ∧ Hh ops.size = s'.h ∧ s'.d = s.d ∧ K s' ∧
      Extra P ops (tr.reverse ++ (List.range' k (ops.size - k)).map fun j => (T j, V j, W j)) (hs.reverse ++ (List.range' k (ops.size + 1 - k)).map Hh) ex ∧
      ∀ (j : Nat) (o : Oper), k ≤ j → ops[j]? = some o → T (j + 1) = upd (T j) o.dst (V j) ∧ (heapy j = false → Hh (j + 1) = Hh j) ∧
        ((W j = false ∧ pwanted ops (T j) o = some false ∧ V j = undef ∧ Hh (j + 1) = Hh j) ∨ (W j = true ∧ pwanted ops (T j) o = some true ∧ OpX P o (T j) (Hh j) (V j) (Hh (j + 1)))) := by
  intro l
  induction l with
  | nil =>
    intro k s tr hs H hl hk
    have hlen : ops.toList.length ≤ k := List.drop_eq_nil_iff.1 hl.symm
    have hlen' : ops.size ≤ k := by simpa using hlen
    have hk' : k = ops.size := by omega
    subst hk'
    refine ⟨fun _ => s.t, fun _ => s.h, fun _ => undef, fun _ => false, s, rfl, rfl, rfl, rfl, rfl, H.2, ?_, fun j o hj ho => ?_⟩
    · have e1 : ops.size - ops.size = 0 := by omega
      have e2 : ops.size + 1 - ops.size = 1 := by omega
      rw [e1, e2]
      simpa using H.1
    · have := (Array.getElem?_eq_some_iff.1 ho).1; omega
  | cons o l ih =>
    intro k s tr hs H hl hk
    obtain ⟨hlt, ho, hrest⟩ := drop_cons hl.symm
    have key : ∀ (v : Value) (h' : AHeap) (wb : Bool), ADr P ops heapy ex K l (k + 1) ⟨upd s.t o.dst v, h', s.d⟩ ((s.t, v, wb) :: tr) (s.h :: hs) → (heapy k = false → h' = s.h) →
        ((wb = false ∧ pwanted ops s.t o = some false ∧ v = undef ∧ h' = s.h) ∨ (wb = true ∧ pwanted ops s.t o = some true ∧ OpX P o s.t s.h v h')) →
        ∃ (T : Nat → PT) (Hh : Nat → AHeap) (V : Nat → Value) (W : Nat → Bool) (s' : AS), T k = s.t ∧ Hh k = s.h ∧ T ops.size = s'.t ∧ Hh ops.size = s'.h ∧ s'.d = s.d ∧ K s' ∧
          Extra P ops (tr.reverse ++ (List.range' k (ops.size - k)).map fun j => (T j, V j, W j)) (hs.reverse ++ (List.range' k (ops.size + 1 - k)).map Hh) ex ∧
          ∀ (j : Nat) (o : Oper), k ≤ j → ops[j]? = some o → T (j + 1) = upd (T j) o.dst (V j) ∧ (heapy j = false → Hh (j + 1) = Hh j) ∧
            ((W j = false ∧ pwanted ops (T j) o = some false ∧ V j = undef ∧ Hh (j + 1) = Hh j) ∨ (W j = true ∧ pwanted ops (T j) o = some true ∧ OpX P o (T j) (Hh j) (V j) (Hh (j + 1)))) := by
      intro v h' wb hA hq hop
      obtain ⟨T, Hh, V, W, s', e1, e2, e3, e4, e5, e6, e7, e8⟩ := ih (k + 1) _ _ _ hA hrest hlt
      have hne : ops.size ≠ k := by omega
      refine ⟨fun j => if j = k then s.t else T j, fun j => if j = k then s.h else Hh j, fun j => if j = k then v else V j, fun j => if j = k then wb else W j, s', by simp, by simp, by simp [hne, e3], by simp [hne, e4], e5, e6, ?_, fun j o' hj hoj => ?_⟩
      · have r1 : List.range' k (ops.size - k) = k :: List.range' (k + 1) (ops.size - (k + 1)) := range'_cons hlt
        have r2 : List.range' k (ops.size + 1 - k) = k :: List.range' (k + 1) (ops.size + 1 - (k + 1)) := range'_cons (by omega)
        have m1 : (List.range' (k + 1) (ops.size - (k + 1))).map (fun j => ((if j = k then s.t else T j), (if j = k then v else V j), (if j = k then wb else W j))) = (List.range' (k + 1) (ops.size - (k + 1))).map (fun j => (T j, V j, W j)) := by
          refine List.map_congr_left fun j hj => ?_
          have := (List.mem_range'_1.1 hj).1
          have : j ≠ k := by omega
          simp [this]
        have m2 : (List.range' (k + 1) (ops.size + 1 - (k + 1))).map (fun j => if j = k then s.h else Hh j) = (List.range' (k + 1) (ops.size + 1 - (k + 1))).map Hh := by
          refine List.map_congr_left fun j hj => ?_
          have := (List.mem_range'_1.1 hj).1
          have : j ≠ k := by omega
          simp [this]
        rw [r1, r2, List.map_cons, List.map_cons, m1, m2]
        simp only [if_true, List.reverse_cons, List.append_assoc, List.singleton_append] at e7 ⊢
        exact e7
      · by_cases hjk : j = k
        · subst hjk
          rw [ho] at hoj
          cases hoj
          have h2 : j + 1 ≠ j := by omega
          simp only [if_true, h2, if_false]
          exact ⟨by rw [e1], fun h => by rw [e2]; exact hq h, by rw [e2]; exact hop⟩
        · have h2 : j + 1 ≠ k := by omega
          simp only [hjk, h2, if_false]
          exact e8 j o' (by omega) hoj
    rcases H with ⟨hw, v, h', hop, hq, hA⟩ | ⟨hw, hA⟩
    · exact key v h' true hA hq (.inr ⟨rfl, hw, hop⟩)
    · exact key undef s.h false hA (fun _ => rfl) (.inl ⟨rfl, hw, rfl, rfl⟩)

theorem AW.regionDraw {Q : AEx → AS → Prop} {s : AS} {id : Nat} (Kp : POk P) (heapy : Nat → Bool) (ex : List (Nat × Nat)) (hok : regionOkL ops heapy = true) (hex : extras ops heapy = ex) (hd : dstOk n ops = true)
    (H : ADr P ops heapy ex (Q .normal) ops.toList 0 s [] []) : AW P n0 n (.region id ops true) Q s := by
  intro ρ w0 w b a k cs hs hb
  obtain ⟨T, Hh, V, W, s', e1, e2, e3, e4, e5, e6, e7, e8⟩ := adr_states ops.toList 0 s [] [] H (by simp) (by omega)
  have hd' := dstOk_spec hd
  have C : CanonL P n ops heapy T Hh V := by
    refine ⟨hd', fun k o ho => (e8 k o (by omega) ho).1, fun k o ho => (e8 k o (by omega) ho).2.1, fun k o ho => ?_, fun k m o ho hq hm hp hw => ?_⟩
    · rcases (e8 k o (by omega) ho).2.2 with ⟨_, h1, h2, h3⟩ | ⟨_, h1, h2⟩
      · exact .inl ⟨h1, h2, h3⟩
      · exact .inr ⟨h1, h2⟩
    · have hks := (Array.getElem?_eq_some_iff.1 ho).1
      obtain ⟨_, g2, g3⟩ := e8 k o (by omega) ho
      rcases g3 with ⟨_, h1, _⟩ | ⟨hW, _, h2⟩
      · rw [hw] at h1; cases h1
      · cases hbt : between ops heapy k m with
        | false =>
          have hC : ∀ i, i ≤ ops.size → True := fun _ _ => trivial
          have hz : Hh m = Hh k := by
            -- no writer between
            have hall : ∀ h, h < ops.size → heapy h = true → (h < m ↔ h < k) := by
              intro h hh hq
              unfold between at hbt
              have := List.any_eq_false.1 hbt h (List.mem_range.2 hh)
              simp only [hq, Bool.true_and, bne_iff_ne, ne_eq, Decidable.not_not] at this
              rw [Nat.blt_eq.symm, Nat.blt_eq.symm, this]
            have hq0 : ∀ a c, a ≤ c → c ≤ ops.size → (∀ h, h < ops.size → heapy h = true → (h < c ↔ h < a)) → Hh c = Hh a := by
              intro a c hac
              induction c with
              | zero => intro _ _; rw [show a = 0 from by omega]
              | succ c ih =>
                intro hc hz
                rcases Nat.eq_or_lt_of_le hac with h | h
                · rw [h]
                · have hoc : ops[c]? = some ops[c] := Array.getElem?_eq_getElem (by omega)
                  have hqc : heapy c = false := by
                    cases hh : heapy c with
                    | false => rfl
                    | true => have := hz c (by omega) hh; omega
                  rw [(e8 c _ (by omega) hoc).2.1 hqc]
                  refine ih (by omega) (by omega) fun h hh hq => ?_
                  have := hz h hh hq
                  constructor
                  · intro h1; exact this.1 (by omega)
                  · intro h1; omega
            rcases Nat.le_total k m with h | h
            · exact hq0 k m h hm hall
            · exact (hq0 m k h (by omega) fun x hx hq => (hall x hx hq).symm).symm
          rw [hz]
          have := g2 hq
          rw [this] at h2
          exact h2
        | true =>
          have hmem : (k, m) ∈ extras ops heapy := by
            unfold extras
            rw [List.mem_flatMap]
            refine ⟨k, List.mem_range.2 hks, ?_⟩
            rw [if_neg (by rw [hq]; simp)]
            rw [List.mem_map]
            refine ⟨m, List.mem_filter.2 ⟨List.mem_range.2 (by omega), ?_⟩, rfl⟩
            rw [hp, hbt]; rfl
          rw [hex] at hmem
          have := Extra.get ex e7 hmem
          have a1 : ops.toList[k]? = some o := by simpa using ho
          have a2 : (([] : List (PT × Value × Bool)).reverse ++ (List.range' 0 (ops.size - 0)).map fun j => (T j, V j, W j))[k]? = some (T k, V k, true) := by
            simp [hks, hW]
          have a3 : (([] : List AHeap).reverse ++ (List.range' 0 (ops.size + 1 - 0)).map Hh)[m]? = some (Hh m) := by
            have : m < ops.size + 1 := by omega
            simp [this]
          rw [a1, a2, a3] at this
          exact this
  have hno : ∀ k, (Array.replicate ops.size false).getD k false = false := fun k => by
    rcases Nat.lt_or_ge k ops.size with h | h <;> simp [h]
  have D : DInvL P ρ w0 n ops heapy T Hh V (Array.replicate ops.size false) a { w with drawn := w.drawn + 1 } :=
    ⟨by simp, fun j o _ hl => (by rw [hno] at hl; cases hl), hs.t.size, fun j o t _ hl => (by rw [hno] at hl; cases hl), fun t v _ hv => hs.t.known t v (by rw [← e1]; exact hv),
      0, by omega, by rw [e2]; exact hs.h.drew _, fun k _ _ => by rw [hno]; simp⟩
  have hl : left ops.size (Array.replicate ops.size false) ≤ ops.size := by
    refine Nat.le_trans List.countP_le_length ?_
    simp
  obtain ⟨ρ', a', w', l', hsub, hdd, D', hall, hst⟩ := goL_sim (regionOkL_spec hok) C b hb k cs ops.size (w.tape w.drawn (.order b.fn id)) ρ _ a _ D hl
  refine ⟨.normal, s', ρ', a', w', e6, hsub.agree n0, ⟨⟨D'.tsize, fun t v hv => ?_⟩, ?_, ?_⟩, ?_⟩
  · rw [← e3] at hv
    rcases C.last t ops.size (by omega) with ⟨j, oj, h1, h2, h3, h4, h5⟩ | ⟨h1, h2⟩
    · rw [h5] at hv
      cases hv
      exact D'.lastw j oj t h2 (hall j h1) h3 fun k ok hk hok _ hdk => h4 k ok hk (Array.getElem?_eq_some_iff.1 hok).1 hok hdk
    · rw [h2] at hv
      exact D'.nowr t v (fun k ok hok _ hdk => h1 k ok (Array.getElem?_eq_some_iff.1 hok).1 hok hdk) hv
  · obtain ⟨m, hm', Hm, hwm⟩ := D'.heap
    have : Hh m = Hh ops.size := C.heap_eq (by omega) hm' fun k hk hq => by
      have := (hwm k hk hq).1 (hall k hk)
      exact ⟨fun _ => hk, fun _ => this⟩
    rw [← e4, ← this]; exact Hm
  · rw [hdd, e5]; exact hs.d.mono hsub
  · show Steps P _ _
    refine .head stepR_region_draw ?_
    simp only [Region.schedule, Kp.mixed, Bool.true_or, if_true]
    exact hst.trans (.one stepR_region_end)

end Go.Am
