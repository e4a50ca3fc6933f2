/-
  The logic: a rule for each kind of operation.
-/
import Derived.Test.YtkiognclopmciaaDoorAmDrawL2
import Derived.IntWalk
namespace Go.Am
open Go Go.RowKit

variable {P : Program} {n0 n : Nat} {t : PT} {h h' h0 : AHeap} {o : Oper} {v x y : Value} {L L' : List AObj}

def pevO (t : PT) : Operand → Option Value
  | .tmp i => look? t i
  | .const v => some v
  | .global g => some (.pointer (some ⟨g, 0, none⟩))
  | .func f => some (.func (.func f) #[] #[])

def kn (t : PT) : Operand → Bool
  | .tmp i => (look? t i).isSome
  | _ => true

theorem pev_of {a : Operand} (hx : pevO t a = some x) : pev t a = x := by
  cases a <;> simp_all [pevO, pev]

theorem kn_of {a : Operand} (hx : pevO t a = some x) : kn t a = true := by
  cases a <;> simp_all [pevO, kn]

theorem knows_eq : knows t o = o.op.operands.toList.all (kn t) := by
  unfold knows
  congr 1

theorem knows_nil (h0 : o.op.operands.toList = []) : knows t o = true := by rw [knows_eq, h0]; rfl
theorem knows1 {a : Operand} (h0 : o.op.operands.toList = [a]) (ha : pevO t a = some x) : knows t o = true := by rw [knows_eq, h0]; simp [kn_of ha]
theorem knows2 {a b : Operand} (h0 : o.op.operands.toList = [a, b]) (ha : pevO t a = some x) (hb : pevO t b = some y) : knows t o = true := by rw [knows_eq, h0]; simp [kn_of ha, kn_of hb]

theorem OpX.pure (hok : okOper P o = true) (hk : knows t o = true) (hv : apure P (pev t) h o = some v) : OpX P o t h v h :=
  OpK.value (by unfold aop; rw [hok, hv]; rfl) hk ⟨rfl, rfl⟩

theorem OpX.eff (hok : okOper P o = true) (hk : knows t o = true) (hn : apure P (pev t) h o = none) (hv : aeff P (pev t) h o = some (.value v h')) : OpX P o t h v h' :=
  OpK.value (by unfold aop; rw [hok, hn]; exact hv) hk ⟨rfl, rfl⟩

/-! Moves. -/

theorem xMove {a : Operand} (ho : o.op = .move a) (hok : okOper P o = true) (ha : pevO t a = some v) : OpX P o t h v h :=
  .pure hok (knows1 (by rw [ho]; rfl) ha) (by unfold apure; rw [ho]; simp only [pev_of ha])

theorem xAssign {a : Operand} (ho : o.op = .assign a) (hok : okOper P o = true) (ha : pevO t a = some v) : OpX P o t h v h :=
  .pure hok (knows1 (by rw [ho]; rfl) ha) (by unfold apure; rw [ho]; simp only [pev_of ha])

theorem xPick {c a b : Operand} {w : Bool} (ho : o.op = .pick c a b) (hok : okOper P o = true) (hc : pevO t c = some (.bool w)) (ha : pevO t a = some x) (hb : pevO t b = some y) : OpX P o t h (bif w then x else y) h :=
  .pure hok (by rw [knows_eq, ho]; simp [Op.operands, kn_of hc, kn_of ha, kn_of hb]) (by unfold apure; rw [ho]; simp only [pev_of hc, pev_of ha, pev_of hb]; cases w <;> rfl)

/-! Memory. -/

theorem xLoad {a : Operand} {ty b i : Nat} (ho : o.op = .load ty a) (hok : okOper P o = true) (ht : aisAgg P ty = some false) (ha : pevO t a = some (.pointer (some ⟨b, i, none⟩))) (hr : aread h b i = some v) : OpX P o t h v h :=
  .pure hok (knows1 (by rw [ho]; rfl) ha) (by unfold apure; rw [ho]; simp only [pev_of ha, aload, ht, Option.bind_eq_bind, Option.bind_some]; exact hr)

theorem xLoadAgg {a : Operand} {ty b i m : Nat} {cs : List Value} (ho : o.op = .load ty a) (hok : okOper P o = true) (ht : aisAgg P ty = some true) (hm : asize P ty = some m) (ha : pevO t a = some (.pointer (some ⟨b, i, none⟩))) (hr : areadN h b i m = some cs) :
    OpX P o t h (.agg cs.toArray) h :=
  .pure hok (knows1 (by rw [ho]; rfl) ha) (by unfold apure; rw [ho]; simp only [pev_of ha, aload, ht, hm, hr, Option.bind_eq_bind, Option.bind_some, if_true])

theorem xFieldAddr {a : Operand} {ty f b i off m : Nat} {fs : Array Field} {fd : Field} (ho : o.op = .fieldAddr ty a f) (hok : okOper P o = true) (hu : P.underlying ty = some (.struct fs)) (hf : fs[f]? = some fd) (hoff : fd.offset = off) (hm : asize P fd.type = some (m + 1))
    (ha : pevO t a = some (.pointer (some ⟨b, i, none⟩))) : OpX P o t h (.pointer (some ⟨b, i + off, none⟩)) h :=
  .pure hok (knows1 (by rw [ho]; rfl) ha) (by unfold apure; rw [ho]; simp only [pev_of ha, afieldAddr, hu, hf, hm, hoff, Option.bind_eq_bind, Option.bind_some]; rfl)

theorem xField {a : Operand} {ty f off : Nat} {fs : Array Field} {fd : Field} {cs : List Value} (ho : o.op = .field ty a f) (hok : okOper P o = true) (hu : P.underlying ty = some (.struct fs)) (hf : fs[f]? = some fd) (hoff : fd.offset = off) (ht : aisAgg P fd.type = some false)
    (ha : pevO t a = some (.agg cs.toArray)) (hv : cs[off]? = some v) : OpX P o t h v h :=
  .pure hok (knows1 (by rw [ho]; rfl) ha) (by unfold apure; rw [ho]; simp only [pev_of ha, afield, hu, hf, apart, ht, hoff, Option.bind_eq_bind, Option.bind_some]; simpa using hv)

theorem xIndexAddr {a c : Operand} {ty e b i m k len cap : Nat} {kd : IntKind} {j : Int} (ho : o.op = .indexAddr ty a c) (hok : okOper P o = true) (hu : P.underlying ty = some (.slice e)) (hm : asize P e = some m)
    (ha : pevO t a = some (.slice (some ⟨b, i, none⟩) len cap)) (hc : pevO t c = some (.int kd j)) (hj : 0 ≤ j ∧ j < len) (hk : j.toNat = k) : OpX P o t h (.pointer (some ⟨b, i + k * m, none⟩)) h :=
  .pure hok (knows2 (by rw [ho]; rfl) ha hc) (by unfold apure; rw [ho]; simp only [pev_of ha, pev_of hc, aindexAddr, hu, hm, Option.bind_eq_bind, Option.bind_some, hj, hk, and_self, if_true])

theorem xIndexAddrArr {a c : Operand} {ty e b i m k len : Nat} {kd : IntKind} {j : Int} (ho : o.op = .indexAddr ty a c) (hok : okOper P o = true) (hu : P.underlying ty = some (.array len e)) (hm : asize P e = some m)
    (ha : pevO t a = some (.pointer (some ⟨b, i, none⟩))) (hc : pevO t c = some (.int kd j)) (hj : 0 ≤ j ∧ j < len) (hk : j.toNat = k) : OpX P o t h (.pointer (some ⟨b, i + k * m, none⟩)) h :=
  .pure hok (knows2 (by rw [ho]; rfl) ha hc) (by unfold apure; rw [ho]; simp only [pev_of ha, pev_of hc, aindexAddr, hu, hm, Option.bind_eq_bind, Option.bind_some, hj, hk, and_self, if_true])

theorem xIndexStr {a c : Operand} {ty k : Nat} {kd : IntKind} {j : Int} {s : ByteArray} {q : UInt8} (ho : o.op = .index ty a c) (hok : okOper P o = true) (hu : P.underlying ty = some .string)
    (ha : pevO t a = some (.string s)) (hc : pevO t c = some (.int kd j)) (hj : 0 ≤ j) (hk : j.toNat = k) (hq : s[k]? = some q) : OpX P o t h (.int .u8 q.toNat) h :=
  .pure hok (knows2 (by rw [ho]; rfl) ha hc) (by unfold apure; rw [ho]; simp only [pev_of ha, pev_of hc, aindex, hu, hj, hk, hq, if_true, Option.map_some])

/-! Numbers. -/

theorem xBin {a c : Operand} {op : BinOp} {ty e : Nat} (ho : o.op = .binOp op ty a c e) (hok : okOper P o = true) (ha : pevO t a = some x) (hc : pevO t c = some y) (hv : abinOp P op ty x y = some v) : OpX P o t h v h :=
  .pure hok (knows2 (by rw [ho]; rfl) ha hc) (by unfold apure; rw [ho]; simp only [pev_of ha, pev_of hc, hv])

theorem wrap64 {i : Int} (hi : -9223372036854775808 ≤ i ∧ i < 9223372036854775808) : IntKind.i64.wrap i = i := IntWalk.i64_in i (by omega)

theorem wrapU {k : IntKind} (hs : k.signed = false) {i : Int} (hi : 0 ≤ i ∧ i < 2 ^ k.bits) : k.wrap i = i := by
  unfold IntKind.wrap
  simp [hs]
  exact Int.emod_eq_of_lt hi.1 hi.2

theorem bAdd {ty : Nat} {i j : Int} (hi : -9223372036854775808 ≤ i + j ∧ i + j < 9223372036854775808) : abinOp P .add ty (.int .i64 i) (.int .i64 j) = some (.int .i64 (i + j)) := by
  simp [abinOp, wrap64 hi]
theorem bSub {ty : Nat} {i j : Int} (hi : -9223372036854775808 ≤ i - j ∧ i - j < 9223372036854775808) : abinOp P .sub ty (.int .i64 i) (.int .i64 j) = some (.int .i64 (i - j)) := by
  simp [abinOp, wrap64 hi]
theorem bMul {ty : Nat} {i j : Int} (hi : -9223372036854775808 ≤ i * j ∧ i * j < 9223372036854775808) : abinOp P .mul ty (.int .i64 i) (.int .i64 j) = some (.int .i64 (i * j)) := by
  simp [abinOp, wrap64 hi]
theorem bAddW {ty : Nat} {k : IntKind} {i j : Int} : abinOp P .add ty (.int k i) (.int k j) = some (.int k (k.wrap (i + j))) := by simp [abinOp]
theorem bSubW {ty : Nat} {k : IntKind} {i j : Int} : abinOp P .sub ty (.int k i) (.int k j) = some (.int k (k.wrap (i - j))) := by simp [abinOp]
theorem bMulW {ty : Nat} {k : IntKind} {i j : Int} : abinOp P .mul ty (.int k i) (.int k j) = some (.int k (k.wrap (i * j))) := by simp [abinOp]
theorem bRem {ty : Nat} {k : IntKind} {i j : Int} (hj : j ≠ 0) : abinOp P .rem ty (.int k i) (.int k j) = some (.int k (i.tmod j)) := by simp [abinOp, hj]
theorem bQuo {ty : Nat} {k : IntKind} {i j : Int} (hj : j ≠ 0) : abinOp P .quo ty (.int k i) (.int k j) = some (.int k (k.wrap (i.tdiv j))) := by simp [abinOp, hj]
theorem bLss {ty : Nat} {k : IntKind} {i j : Int} : abinOp P .lss ty (.int k i) (.int k j) = some (.bool (decide (i < j))) := by simp [abinOp]
theorem bLeq {ty : Nat} {k : IntKind} {i j : Int} : abinOp P .leq ty (.int k i) (.int k j) = some (.bool (decide (i ≤ j))) := by simp [abinOp]
theorem bGtr {ty : Nat} {k : IntKind} {i j : Int} : abinOp P .gtr ty (.int k i) (.int k j) = some (.bool (decide (i > j))) := by simp [abinOp]
theorem bGeq {ty : Nat} {k : IntKind} {i j : Int} : abinOp P .geq ty (.int k i) (.int k j) = some (.bool (decide (i ≥ j))) := by simp [abinOp]
theorem bEql {ty : Nat} {k : IntKind} {i j : Int} : abinOp P .eql ty (.int k i) (.int k j) = some (.bool (decide (i = j))) := by
  simp only [abinOp]
  simp
  rfl
theorem bNeq {ty : Nat} {k : IntKind} {i j : Int} : abinOp P .neq ty (.int k i) (.int k j) = some (.bool (!decide (i = j))) := by
  simp only [abinOp]
  simp
  rfl

theorem xNot {a : Operand} {ty : Nat} {w : Bool} (ho : o.op = .unOp .not ty a) (hok : okOper P o = true) (ha : pevO t a = some (.bool w)) : OpX P o t h (.bool (!w)) h :=
  .pure hok (knows1 (by rw [ho]; rfl) ha) (by unfold apure; rw [ho]; simp only [pev_of ha, aunOp])

theorem xNeg {a : Operand} {ty : Nat} {i : Int} (ho : o.op = .unOp .neg ty a) (hok : okOper P o = true) (ha : pevO t a = some (.int .i64 i)) (hi : -9223372036854775808 < i ∧ i < 9223372036854775808) : OpX P o t h (.int .i64 (-i)) h :=
  .pure hok (knows1 (by rw [ho]; rfl) ha) (by
    unfold apure; rw [ho]
    have : IntKind.i64.wrap (0 - i) = -i := by rw [wrap64 (by omega)]; omega
    simp only [pev_of ha, aunOp, this])

theorem xConv {a : Operand} {s d : Nat} {k : IntKind} {k' : IntKind} {i : Int} {sd : TypeDesc} (ho : o.op = .convert s d a) (hok : okOper P o = true) (hs : P.underlying s = some sd) (hd : P.underlying d = some (.int k)) (ha : pevO t a = some (.int k' i)) : OpX P o t h (.int k (k.wrap i)) h :=
  .pure hok (knows1 (by rw [ho]; rfl) ha) (by unfold apure; rw [ho]; simp only [pev_of ha, hs, hd])

theorem xConvStr {a : Operand} {s d : Nat} {q : ByteArray} {sd : TypeDesc} (ho : o.op = .convert s d a) (hok : okOper P o = true) (hs : P.underlying s = some sd) (hd : P.underlying d = some .string) (ha : pevO t a = some (.string q)) : OpX P o t h (.string q) h :=
  .pure hok (knows1 (by rw [ho]; rfl) ha) (by unfold apure; rw [ho]; simp only [pev_of ha, hs, hd])

theorem xExtract {a : Operand} {i : Nat} {vs : List Value} (ho : o.op = .extract a i) (hok : okOper P o = true) (ha : pevO t a = some (.tuple vs.toArray)) (hv : vs[i]? = some v) : OpX P o t h v h :=
  .pure hok (knows1 (by rw [ho]; rfl) ha) (by unfold apure; rw [ho]; simp only [pev_of ha]; simpa using hv)

theorem xBuild {ty : Nat} {parts : Array (Nat × Operand)} {vs : List (Nat × Value)} {cs : List Value} (ho : o.op = .build ty parts) (hok : okOper P o = true) (hk : knows t o = true) (hp : (parts.toList.map fun p => (p.1, pev t p.2)) = vs) (hv : abuild P ty vs = some (.agg cs.toArray)) :
    OpX P o t h (.agg cs.toArray) h :=
  .pure hok hk (by unfold apure; rw [ho]; simp only [hp, hv])

theorem xLen {ats : Array TypeId} {args : Array Operand} {a : Operand} {ty : Nat} (ho : o.op = .call { callee := .builtin .len, args := args, argTypes := ats }) (hok : okOper P o = true) (hk : knows t o = true) (harg : args.toList = [a]) (hty : ats[0]? = some ty) (ha : pevO t a = some x) (hv : alen P ty x = some v) :
    OpX P o t h v h :=
  .pure hok hk (by unfold apure; rw [ho]; simp only [harg, hty, pev_of ha, hv, Option.bind_eq_bind, Option.bind_some])

/-! Effects. -/

theorem xAlloc {ty k : Nat} {cs : List Value} (ho : o.op = .alloc ty) (hok : okOper P o = true) (hz : (azero P ty).map (fun z => z.cells.toList) = some cs) (hL : L.length = k) (hA : L ++ [.cells cs 0] = L') :
    OpX P o t (ext h0 L) (.pointer (some ⟨h0.n + k, 0, none⟩)) (ext h0 L') := by
  refine .eff hok (knows_nil (by rw [ho]; rfl)) (by unfold apure; rw [ho]) ?_
  unfold aeff
  rw [ho]
  simp only [Option.map_eq_some_iff] at hz
  obtain ⟨z, hz, rfl⟩ := hz
  simp only [hz, anew, w2, Option.map_some, ext_n, ext_push, hL, hA]

theorem xBox {a : Operand} {ty k : Nat} {cs : List Value} (ho : o.op = .box ty a) (hok : okOper P o = true) (ha : pevO t a = some x) (hc : x.cells.toList = cs) (hL : L.length = k) (hA : L ++ [.cells cs 0] = L') :
    OpX P o t (ext h0 L) (.pointer (some ⟨h0.n + k, 0, none⟩)) (ext h0 L') := by
  refine .eff hok (knows1 (by rw [ho]; rfl) ha) (by unfold apure; rw [ho]) ?_
  unfold aeff
  rw [ho]
  simp only [pev_of ha, hc, anew, w2, Option.map_some, ext_n, ext_push, hL, hA]

theorem ext_set {j : Nat} {o1 : AObj} (hj : j < L.length) : (∀ b, ((ext h0 L).set (h0.n + j) o1).get b = (ext h0 (L.set j o1)).get b) ∧ ((ext h0 L).set (h0.n + j) o1).n = (ext h0 (L.set j o1)).n := by
  refine ⟨fun b => ?_, by simp [ext_n]⟩
  rw [AHeap.get_set, ext_get, ext_get]
  simp only [List.length_set]
  by_cases hb : b = h0.n + j
  · subst hb
    rw [if_pos rfl, if_pos (by omega), show h0.n + j - h0.n = j from by omega]
    simp [hj]
  · rw [if_neg hb]
    by_cases h1 : h0.n ≤ b ∧ b < h0.n + L.length
    · rw [if_pos h1, if_pos h1]
      simp only [List.getD_eq_getElem?_getD]
      rw [List.getElem?_set_ne (by omega)]
    · rw [if_neg h1, if_neg h1]

/-- Heaps with the same blocks stand for each other. -/
theorem OpX.same {h1 : AHeap} (H : OpX P o t h v h1) (hn : h'.n = h1.n) (hg : ∀ b, h1.get b = h'.get b) : OpX P o t h v h' := by
  intro ρ w0 w a Hh HT all k rest b todo cs ho hw hb
  obtain ⟨ρ', v1, v', h2, w', ⟨rfl, rfl⟩, hs, H', hv, hst⟩ := H ρ w0 w a Hh HT all k rest b todo cs ho hw hb
  exact ⟨ρ', _, v', h', w', ⟨rfl, rfl⟩, hs, H'.same hn (fun b => (hg b).symm), hv, hst⟩

theorem xStore {a c : Operand} {ty i j e : Nat} {cs cs' vs : List Value} (ho : o.op = .store ty a c) (hok : okOper P o = true) (ha : pevO t a = some (.pointer (some ⟨h0.n + j, i, none⟩))) (hc : pevO t c = some x) (hvs : x.cells.toList = vs) (hsz : asize P ty = some vs.length)
    (hj : L[j]? = some (.cells cs e)) (hi : i + vs.length ≤ cs.length) (hcell : vs.all isCell = true) (hcs : setAll cs i vs = cs') (hL : L.set j (.cells cs' e) = L') : OpX P o t (ext h0 L) undef (ext h0 L') := by
  have hjl : j < L.length := (List.getElem?_eq_some_iff.1 hj).1
  obtain ⟨g1, g2⟩ := ext_set (h0 := h0) (o1 := .cells cs' e) hjl
  rw [hL] at g1 g2
  refine OpX.same (h1 := (ext h0 L).set (h0.n + j) (.cells cs' e)) ?_ g2.symm g1
  refine .eff hok (knows2 (by rw [ho]; rfl) ha hc) (by unfold apure; rw [ho]) ?_
  have hvs' : x.cells.size = vs.length := by rw [← hvs]; simp
  unfold aeff
  rw [ho]
  simp only [pev_of ha, pev_of hc, astore, hsz, hvs', hvs, awriteN, ext_own hj, hcell, hcs, hi, beq_self_eq_true, if_true, decide_true, Bool.and_self, Option.map_some]

theorem read_own {j i : Nat} {e : Nat} {cs : List Value} (hj : L[j]? = some (.cells cs e)) (hi : cs[i]? = some v) : aread (ext h0 L) (h0.n + j) i = some v := by
  simp only [aread, ext_own hj, AObj.row, Option.bind_some, hi]

theorem readN_own {j i m : Nat} {e : Nat} {cs cs' : List Value} (hj : L[j]? = some (.cells cs e)) (hi : i + m ≤ cs.length) (hcs : (cs.drop i).take m = cs') : areadN (ext h0 L) (h0.n + j) i m = some cs' := by
  simp only [areadN, ext_own hj, AObj.row, Option.bind_some, takeAt, hi, if_true, hcs]

theorem read_base {b i : Nat} (hb : b < h0.n) (hr : aread h0 b i = some v) : aread (ext h0 L) b i = some v := by
  simp only [aread, ext_old hb] at hr ⊢
  exact hr

theorem readN_base {b i m : Nat} {cs : List Value} (hb : b < h0.n) (hr : areadN h0 b i m = some cs) : areadN (ext h0 L) b i m = some cs := by
  simp only [areadN, ext_old hb] at hr ⊢
  exact hr

/-! Steps. -/

variable {all : Array Oper} {K : AS → Prop} {r : List Oper} {d : List Nat}

theorem AOps.one (hw : pwanted all t o = some true) (hop : OpX P o t h v h') (next : AOps P n all K r ⟨upd t o.dst v, h', d⟩) : AOps P n all K (o :: r) ⟨t, h, d⟩ :=
  .inl ⟨hw, hop.mono fun _ _ ⟨h1, h2⟩ => by rw [h1, h2]; exact next⟩

theorem AOps.oneB {w : Bool} (hw : pwanted all t o = some true) (hop : OpX P o t h (.bool w) h') (yes : w = true → AOps P n all K r ⟨upd t o.dst (.bool true), h', d⟩) (no : w = false → AOps P n all K r ⟨upd t o.dst (.bool false), h', d⟩) : AOps P n all K (o :: r) ⟨t, h, d⟩ := by
  cases w with
  | true => exact .one hw hop (yes rfl)
  | false => exact .one hw hop (no rfl)

theorem AW.condB {Q : AEx → AS → Prop} {i : Nat} {c1 c2 : Code} {w : Bool} (hl : look? t i = some (.bool w)) (yes : w = true → AW P n0 n c1 Q ⟨t, h, d⟩) (no : w = false → AW P n0 n c2 Q ⟨t, h, d⟩) : AW P n0 n (.cond (.tmp i) c1 c2) Q ⟨t, h, d⟩ := by
  cases w with
  | true => exact .cond hl (yes rfl)
  | false => exact .cond hl (no rfl)

theorem AOps.done {s : AS} (hk : K s) : AOps P n all K [] s := hk

/-- A call of a function that leaves the heap alone. -/
theorem xCallPure (Kp : POk P) {f : FuncId} {args : List Value} {cargs : Array Operand} {ats : Array TypeId} {ell : Call} {fn : Func} (ho : o.op = .call ell) (hc : ell.callee = .value (.func f)) (hargs : ell.args = cargs) (hok : okOper P o = true) (hk : knows t o = true) (hps : cargs.toList.map (pev t) = args)
    (hf : P.funcs[f]? = some fn) (hb : fn.body.isSome = true) (hat : ell.argTypes = ats) (H : ACalls P f args h (Pure v h)) : OpX P o t h v h := by
  refine OpK.call Kp (f := f) (args := args) ?_ hk hf hb (H.mono fun _ _ h => h)
  unfold aop
  rw [hok]
  have h1 : apure P (pev t) h o = none := by
    unfold apure
    rw [ho]
    obtain ⟨callee, as, ats⟩ := ell
    cases hc
    rfl
  rw [h1]
  unfold aeff
  rw [ho]
  subst hargs
  simp [hc, pev, hps]

end Go.Am
