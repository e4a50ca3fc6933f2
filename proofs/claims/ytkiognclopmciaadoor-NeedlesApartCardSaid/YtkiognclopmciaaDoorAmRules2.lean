/-
  The logic: rules for drawn regions, ends of functions, and more ways to read.
-/
import Derived.Test.YtkiognclopmciaaDoorAmRules
namespace Go.Am
open Go Go.RowKit

variable {P : Program} {n0 n : Nat} {t : PT} {h h' h0 : AHeap} {o : Oper} {v x y : Value} {L L' : List AObj}
variable {ops : Array Oper} {heapy : Nat → Bool} {ex : List (Nat × Nat)} {K : AS → Prop} {r : List Oper} {k : Nat} {d : List Nat} {tr : List (PT × Value × Bool)} {hs : List AHeap}

theorem ADr.one (hw : pwanted ops t o = some true) (hop : OpX P o t h v h) (next : ADr P ops heapy ex K r (k + 1) ⟨upd t o.dst v, h, d⟩ ((t, v, true) :: tr) (h :: hs)) : ADr P ops heapy ex K (o :: r) k ⟨t, h, d⟩ tr hs :=
  .inl ⟨hw, v, h, hop, fun _ => rfl, next⟩

theorem ADr.eff (hk : heapy k = true) (hw : pwanted ops t o = some true) (hop : OpX P o t h v h') (next : ADr P ops heapy ex K r (k + 1) ⟨upd t o.dst v, h', d⟩ ((t, v, true) :: tr) (h :: hs)) : ADr P ops heapy ex K (o :: r) k ⟨t, h, d⟩ tr hs :=
  .inl ⟨hw, v, h', hop, fun hf => absurd (hk.symm.trans hf) (by simp), next⟩

theorem ADr.oneB {w : Bool} (hw : pwanted ops t o = some true) (hop : OpX P o t h (.bool w) h) (yes : w = true → ADr P ops heapy ex K r (k + 1) ⟨upd t o.dst (.bool true), h, d⟩ ((t, .bool true, true) :: tr) (h :: hs))
    (no : w = false → ADr P ops heapy ex K r (k + 1) ⟨upd t o.dst (.bool false), h, d⟩ ((t, .bool false, true) :: tr) (h :: hs)) : ADr P ops heapy ex K (o :: r) k ⟨t, h, d⟩ tr hs := by
  cases w with
  | true => exact .one hw hop (yes rfl)
  | false => exact .one hw hop (no rfl)

theorem ADr.off (hw : pwanted ops t o = some false) (next : ADr P ops heapy ex K r (k + 1) ⟨upd t o.dst undef, h, d⟩ ((t, undef, false) :: tr) (h :: hs)) : ADr P ops heapy ex K (o :: r) k ⟨t, h, d⟩ tr hs := .inr ⟨hw, next⟩

theorem ADr.done {s : AS} (he : Extra P ops tr.reverse (s.h :: hs).reverse ex) (hk : K s) : ADr P ops heapy ex K [] k s tr hs := ⟨he, hk⟩

theorem xPickT {c a b : Operand} (ho : o.op = .pick c a b) (hok : okOper P o = true) (hc : pevO t c = some (.bool true)) (ha : pevO t a = some x) (hb : pevO t b = some y) : OpX P o t h x h := xPick ho hok hc ha hb
theorem xPickF {c a b : Operand} (ho : o.op = .pick c a b) (hok : okOper P o = true) (hc : pevO t c = some (.bool false)) (ha : pevO t a = some x) (hb : pevO t b = some y) : OpX P o t h y h := xPick ho hok hc ha hb

theorem readN_all {j m : Nat} {e : Nat} {cs : List Value} (hj : L[j]? = some (.cells cs e)) (hm : cs.length = m) : areadN (ext h0 L) (h0.n + j) 0 m = some cs := by
  refine readN_own hj (by omega) ?_
  rw [← hm]; simp

theorem xFieldAddr0 {a : Operand} {ty f b off m : Nat} {fs : Array Field} {fd : Field} (ho : o.op = .fieldAddr ty a f) (hok : okOper P o = true) (hu : P.underlying ty = some (.struct fs)) (hf : fs[f]? = some fd) (hoff : fd.offset = off) (hm : asize P fd.type = some (m + 1))
    (ha : pevO t a = some (.pointer (some ⟨b, 0, none⟩))) : OpX P o t h (.pointer (some ⟨b, off, none⟩)) h := by
  have := xFieldAddr (h := h) ho hok hu hf hoff hm ha
  rwa [Nat.zero_add] at this

theorem xIndexAddr1 {a c : Operand} {ty e b k len cap : Nat} {kd : IntKind} {j : Int} (ho : o.op = .indexAddr ty a c) (hok : okOper P o = true) (hu : P.underlying ty = some (.slice e)) (hm : asize P e = some 1)
    (ha : pevO t a = some (.slice (some ⟨b, 0, none⟩) len cap)) (hc : pevO t c = some (.int kd j)) (hj : 0 ≤ j ∧ j < len) (hk : j.toNat = k) : OpX P o t h (.pointer (some ⟨b, k, none⟩)) h := by
  have := xIndexAddr (h := h) ho hok hu hm ha hc hj hk
  rwa [Nat.zero_add, Nat.mul_one] at this

theorem FnEnd.r1 {fn : Func} {R : Value → AHeap → Prop} {s : AS} {a : ResultVar} (hr : fn.results.toList = [a]) (hd : s.d = []) (ha : prv P s a = some v) (hR : R v s.h) : FnEnd P fn R .ret s :=
  ⟨hd, v, by simp [presults, hr, ha], hR⟩

theorem FnEnd.r2 {fn : Func} {R : Value → AHeap → Prop} {s : AS} {a b : ResultVar} (hr : fn.results.toList = [a, b]) (hd : s.d = []) (ha : prv P s a = some x) (hb : prv P s b = some y) (hR : R (.tuple [x, y].toArray) s.h) : FnEnd P fn R .ret s :=
  ⟨hd, _, by simp [presults, hr, ha, hb], hR⟩

theorem FnEnd.r3 {fn : Func} {R : Value → AHeap → Prop} {s : AS} {a b c : ResultVar} {z : Value} (hr : fn.results.toList = [a, b, c]) (hd : s.d = []) (ha : prv P s a = some x) (hb : prv P s b = some y) (hc : prv P s c = some z) (hR : R (.tuple [x, y, z].toArray) s.h) : FnEnd P fn R .ret s :=
  ⟨hd, _, by simp [presults, hr, ha, hb, hc], hR⟩

theorem FnEnd.r0 {fn : Func} {R : Value → AHeap → Prop} {s : AS} (hr : fn.results.toList = []) (hd : s.d = []) (hR : R (.tuple #[]) s.h) : FnEnd P fn R .ret s :=
  ⟨hd, _, by simp [presults, hr], hR⟩

theorem prv_agg {a ty b i m : Nat} {cs : List Value} (hl : look? t a = some (.pointer (some ⟨b, i, none⟩))) (ht : aisAgg P ty = some true) (hm : asize P ty = some m) (hr : areadN h b i m = some cs) : prv P ⟨t, h, d⟩ (.cell a ty) = some (.agg cs.toArray) := by
  simp only [prv, hl, Option.bind_some, aload, ht, hm, hr, Option.bind_eq_bind, if_true]

theorem prv_one {a ty b i : Nat} (hl : look? t a = some (.pointer (some ⟨b, i, none⟩))) (ht : aisAgg P ty = some false) (hr : aread h b i = some v) : prv P ⟨t, h, d⟩ (.cell a ty) = some v := by
  simp only [prv, hl, Option.bind_some, aload, ht, Option.bind_eq_bind]
  exact hr

/-- Values without blocks. -/
theorem In.cells (hv : ∀ x ∈ v.cells.toList, In n x) (ha : ∃ xs, v = .agg xs) : In n v := by
  obtain ⟨xs, rfl⟩ := ha
  exact .agg xs fun i x hx => hv x (by simp [Value.cells]; exact Array.mem_of_getElem? hx)

theorem In.agg_list {cs : List Value} (hv : ∀ x ∈ cs, In n x) : In n (.agg cs.toArray) := .agg _ fun i x hx => hv x (by simpa using Array.mem_of_getElem? hx)
theorem In.tuple_list {cs : List Value} (hv : ∀ x ∈ cs, In n x) : In n (.tuple cs.toArray) := .tuple _ fun i x hx => hv x (by simpa using Array.mem_of_getElem? hx)

/-- A function that leaves its caller's heap alone, whatever it makes itself. -/
theorem ACalls.pureOf {f : FuncId} {args : List Value} {x : Value} (hx : In h.n x) (H : ACalls P f args h (fun v h' => v = x ∧ ∃ L, h' = ext h L)) : ACalls P f args h (Pure x h) :=
  (H.mono fun v h' ⟨h1, L, h2⟩ => ⟨h1, fun b hb => by rw [h2]; exact ext_old hb⟩).pure' hx

/-! Steps, with the slot that is written named. -/

variable {all : Array Oper} {e : Nat}

theorem AOps.set (hd : o.dst = some e) (hw : pwanted all t o = some true) (hop : OpX P o t h v h') (next : AOps P n all K r ⟨(e, v) :: t, h', d⟩) : AOps P n all K (o :: r) ⟨t, h, d⟩ := .one hw hop (by rw [hd]; exact next)
theorem AOps.non (hd : o.dst = none) (hw : pwanted all t o = some true) (hop : OpX P o t h v h') (next : AOps P n all K r ⟨t, h', d⟩) : AOps P n all K (o :: r) ⟨t, h, d⟩ := .one hw hop (by rw [hd]; exact next)
theorem AOps.setB {w : Bool} (hd : o.dst = some e) (hw : pwanted all t o = some true) (hop : OpX P o t h (.bool w) h') (yes : w = true → AOps P n all K r ⟨(e, .bool true) :: t, h', d⟩) (no : w = false → AOps P n all K r ⟨(e, .bool false) :: t, h', d⟩) : AOps P n all K (o :: r) ⟨t, h, d⟩ :=
  .oneB hw hop (fun hb => by rw [hd]; exact yes hb) (fun hb => by rw [hd]; exact no hb)
theorem AOps.offS (hd : o.dst = some e) (hw : pwanted all t o = some false) (next : AOps P n all K r ⟨(e, undef) :: t, h, d⟩) : AOps P n all K (o :: r) ⟨t, h, d⟩ := .off hw (by rw [hd]; exact next)
theorem AOps.offN (hd : o.dst = none) (hw : pwanted all t o = some false) (next : AOps P n all K r ⟨t, h, d⟩) : AOps P n all K (o :: r) ⟨t, h, d⟩ := .off hw (by rw [hd]; exact next)
theorem ADr.set (hd : o.dst = some e) (hw : pwanted ops t o = some true) (hop : OpX P o t h v h) (next : ADr P ops heapy ex K r (k + 1) ⟨(e, v) :: t, h, d⟩ ((t, v, true) :: tr) (h :: hs)) : ADr P ops heapy ex K (o :: r) k ⟨t, h, d⟩ tr hs := .one hw hop (by rw [hd]; exact next)
theorem ADr.non (hd : o.dst = none) (hw : pwanted ops t o = some true) (hop : OpX P o t h v h) (next : ADr P ops heapy ex K r (k + 1) ⟨t, h, d⟩ ((t, v, true) :: tr) (h :: hs)) : ADr P ops heapy ex K (o :: r) k ⟨t, h, d⟩ tr hs := .one hw hop (by rw [hd]; exact next)
theorem ADr.effS (hd : o.dst = some e) (hk : heapy k = true) (hw : pwanted ops t o = some true) (hop : OpX P o t h v h') (next : ADr P ops heapy ex K r (k + 1) ⟨(e, v) :: t, h', d⟩ ((t, v, true) :: tr) (h :: hs)) : ADr P ops heapy ex K (o :: r) k ⟨t, h, d⟩ tr hs := .eff hk hw hop (by rw [hd]; exact next)
theorem ADr.effN (hd : o.dst = none) (hk : heapy k = true) (hw : pwanted ops t o = some true) (hop : OpX P o t h v h') (next : ADr P ops heapy ex K r (k + 1) ⟨t, h', d⟩ ((t, v, true) :: tr) (h :: hs)) : ADr P ops heapy ex K (o :: r) k ⟨t, h, d⟩ tr hs := .eff hk hw hop (by rw [hd]; exact next)
theorem ADr.setB {w : Bool} (hd : o.dst = some e) (hw : pwanted ops t o = some true) (hop : OpX P o t h (.bool w) h) (yes : w = true → ADr P ops heapy ex K r (k + 1) ⟨(e, .bool true) :: t, h, d⟩ ((t, .bool true, true) :: tr) (h :: hs))
    (no : w = false → ADr P ops heapy ex K r (k + 1) ⟨(e, .bool false) :: t, h, d⟩ ((t, .bool false, true) :: tr) (h :: hs)) : ADr P ops heapy ex K (o :: r) k ⟨t, h, d⟩ tr hs := .oneB hw hop (fun hb => by rw [hd]; exact yes hb) (fun hb => by rw [hd]; exact no hb)
theorem ADr.offS (hd : o.dst = some e) (hw : pwanted ops t o = some false) (next : ADr P ops heapy ex K r (k + 1) ⟨(e, undef) :: t, h, d⟩ ((t, undef, false) :: tr) (h :: hs)) : ADr P ops heapy ex K (o :: r) k ⟨t, h, d⟩ tr hs := .off hw (by rw [hd]; exact next)
theorem ADr.offN (hd : o.dst = none) (hw : pwanted ops t o = some false) (next : ADr P ops heapy ex K r (k + 1) ⟨t, h, d⟩ ((t, undef, false) :: tr) (h :: hs)) : ADr P ops heapy ex K (o :: r) k ⟨t, h, d⟩ tr hs := .off hw (by rw [hd]; exact next)

theorem AW.condT {Q : AEx → AS → Prop} {i : Nat} {c1 c2 : Code} (hl : look? t i = some (.bool true)) (H : AW P n0 n c1 Q ⟨t, h, d⟩) : AW P n0 n (.cond (.tmp i) c1 c2) Q ⟨t, h, d⟩ := .cond hl H
theorem AW.condF {Q : AEx → AS → Prop} {i : Nat} {c1 c2 : Code} (hl : look? t i = some (.bool false)) (H : AW P n0 n c2 Q ⟨t, h, d⟩) : AW P n0 n (.cond (.tmp i) c1 c2) Q ⟨t, h, d⟩ := .cond hl H

/-! Numbers whose kind may not hold them: the wrap is named. -/

theorem bAddK {ty : Nat} {kd : IntKind} {i j m : Int} (hw : kd.wrap (i + j) = m) : abinOp P .add ty (.int kd i) (.int kd j) = some (.int kd m) := by rw [← hw]; exact bAddW
theorem bSubK {ty : Nat} {kd : IntKind} {i j m : Int} (hw : kd.wrap (i - j) = m) : abinOp P .sub ty (.int kd i) (.int kd j) = some (.int kd m) := by rw [← hw]; exact bSubW
theorem bMulK {ty : Nat} {kd : IntKind} {i j m : Int} (hw : kd.wrap (i * j) = m) : abinOp P .mul ty (.int kd i) (.int kd j) = some (.int kd m) := by rw [← hw]; exact bMulW
theorem bRemN {ty : Nat} {kd : IntKind} {i j : Int} (hi : 0 ≤ i ∧ j ≠ 0) : abinOp P .rem ty (.int kd i) (.int kd j) = some (.int kd (i % j)) := by rw [bRem hi.2, Int.tmod_eq_emod_of_nonneg hi.1]
theorem bQuoN {ty : Nat} {kd : IntKind} {i j m : Int} (hi : 0 ≤ i ∧ j ≠ 0) (hw : kd.wrap (i / j) = m) : abinOp P .quo ty (.int kd i) (.int kd j) = some (.int kd m) := by rw [bQuo hi.2, Int.tdiv_eq_ediv_of_nonneg hi.1, hw]

theorem xConvK {a : Operand} {s d : Nat} {kd : IntKind} {k' : IntKind} {i m : Int} {sd : TypeDesc} (ho : o.op = .convert s d a) (hok : okOper P o = true) (hs : P.underlying s = some sd) (hd : P.underlying d = some (.int kd)) (ha : pevO t a = some (.int k' i)) (hw : kd.wrap i = m) : OpX P o t h (.int kd m) h := by
  rw [← hw]; exact xConv ho hok hs hd ha

theorem setAll_one {cs : List Value} {i : Nat} : setAll cs i [x] = cs.set i x := rfl

theorem setAll_eq : ∀ (vs pre post cs : List Value), cs.length = vs.length → setAll (pre ++ cs ++ post) pre.length vs = pre ++ vs ++ post
  | [], pre, post, cs, h => by
    have : cs = [] := List.length_eq_zero_iff.1 h
    subst this; rfl
  | v :: vs, pre, post, [], h => by cases h
  | v :: vs, pre, post, c :: cs, h => by
    have h2 := setAll_eq vs (pre ++ [v]) post cs (by simpa using h)
    have e : (pre ++ c :: cs ++ post).set pre.length v = pre ++ [v] ++ cs ++ post := by simp
    simp only [setAll, e]
    simpa using h2

theorem setAll_all {cs vs : List Value} (h : vs.length = cs.length) : setAll cs 0 vs = vs := by
  have := setAll_eq vs [] [] cs h.symm
  simpa using this

/-- A struct is stored whole. -/
theorem xStoreAll {a c : Operand} {ty j e : Nat} {cs vs : List Value} (ho : o.op = .store ty a c) (hok : okOper P o = true) (ha : pevO t a = some (.pointer (some ⟨h0.n + j, 0, none⟩))) (hc : pevO t c = some (.agg vs.toArray)) (hsz : asize P ty = some vs.length)
    (hj : L[j]? = some (.cells cs e)) (hi : vs.length = cs.length) (hcell : vs.all isCell = true) (hL : L.set j (.cells vs e) = L') : OpX P o t (ext h0 L) undef (ext h0 L') :=
  xStore (vs := vs) ho hok ha hc rfl hsz hj (by omega) hcell (setAll_all hi) hL

/-- A struct is stored into a part. -/
theorem xStoreAgg {a c : Operand} {ty i j e : Nat} {cs cs' vs : List Value} (ho : o.op = .store ty a c) (hok : okOper P o = true) (ha : pevO t a = some (.pointer (some ⟨h0.n + j, i, none⟩))) (hc : pevO t c = some (.agg vs.toArray)) (hsz : asize P ty = some vs.length)
    (hj : L[j]? = some (.cells cs e)) (hi : i + vs.length ≤ cs.length) (hcell : vs.all isCell = true) (hcs : setAll cs i vs = cs') (hL : L.set j (.cells cs' e) = L') : OpX P o t (ext h0 L) undef (ext h0 L') :=
  xStore (vs := vs) ho hok ha hc rfl hsz hj hi hcell hcs hL

/-- One cell is stored. -/
theorem xStore1 {a c : Operand} {ty i j e : Nat} {cs cs' : List Value} (ho : o.op = .store ty a c) (hok : okOper P o = true) (ha : pevO t a = some (.pointer (some ⟨h0.n + j, i, none⟩))) (hc : pevO t c = some x) (hx : x.cells.toList = [x]) (hsz : asize P ty = some 1)
    (hj : L[j]? = some (.cells cs e)) (hi : i < cs.length) (hcell : isCell x = true) (hcs : cs.set i x = cs') (hL : L.set j (.cells cs' e) = L') : OpX P o t (ext h0 L) undef (ext h0 L') :=
  xStore (vs := [x]) ho hok ha hc hx (by simpa using hsz) hj (by simp; omega) (by simp [hcell]) (by rw [setAll_one]; exact hcs) hL

theorem xBoxAgg {a : Operand} {ty k : Nat} {cs : List Value} (ho : o.op = .box ty a) (hok : okOper P o = true) (ha : pevO t a = some (.agg cs.toArray)) (hL : L.length = k) (hA : L ++ [.cells cs 0] = L') :
    OpX P o t (ext h0 L) (.pointer (some ⟨h0.n + k, 0, none⟩)) (ext h0 L') := xBox ho hok ha rfl hL hA
theorem xBox1 {a : Operand} {ty k : Nat} (ho : o.op = .box ty a) (hok : okOper P o = true) (ha : pevO t a = some x) (hx : x.cells.toList = [x]) (hL : L.length = k) (hA : L ++ [.cells [x] 0] = L') :
    OpX P o t (ext h0 L) (.pointer (some ⟨h0.n + k, 0, none⟩)) (ext h0 L') := xBox ho hok ha hx hL hA

theorem ACalls.ofBody {f : FuncId} {fn : Func} {c : Code} {args : List Value} {R : Value → AHeap → Prop} (hf : P.funcs[f]? = some fn) (hb : fn.body = some c) (hn : args.length ≤ fn.ntmps)
    (H : AW P h.n fn.ntmps c (FnEnd P fn R) ⟨argsPT 0 args, ext h [], []⟩) : ACalls P f args h R := .of_body hf hb hn H

end Go.Am
