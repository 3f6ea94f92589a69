/- The functions that the statement reaches, gone through. -/
import Derived.Test.YtlgebaofkolkoaaSuA
set_option linter.unusedSimpArgs false
set_option linter.unusedVariables false
set_option linter.defProp false
set_option maxRecDepth 10000
namespace Go.Am.Ytlgebaofkolkoaa
open Go Go.Am Go.Proofs
theorem f86 (v : a9) (cnt : Nat) (xs : List a9) (h : Hp) (n : Nat) (hv : Lp h v cnt xs) (h1 : xs.all bJ = true) (hc : cnt ≤ 1000000) (hf : bK h n) :
    Wp (aZ env (evalW env) 86 [v]) h n fun v' h' n' => Lp h' v' cnt xs ∧ (∀ j, bD v' = some j → n ≤ j ∧ j < n') ∧ Old h h' n := by
  refine bI ff86 fi86 ?_
  obtain ⟨en, en2⟩ := hv.B9
  simp only [TA, Try.f86, Option.getD_some, List.replicate, aB, fgr, execOp, opd, ofValue, aC, put, nth, aA, ended, aP, aQ, Nat.reduceSub, en, gL, gI]
  cases hnil : lB v with
  | true =>
    obtain ⟨e1, e2, e3⟩ := en2 hnil
    subst e1; subst e2; subst e3
    simp only [aB, fgr, execOp, opd, ofValue, aC, put, nth, aA, gB]
    exact ⟨.nil, (fun j q => by cases q), Old.refl _ _⟩
  | false =>
    simp only [aB, tyr, execOp, dA, und, aV, buildSlice, fF, fill, Nat.ble, gI]
    refine j6 iL hf (f := fun id => a9.sl id 0 0 (some 0) 1) fun H r o f => ?_
    simp only [aB, execOp, opd, bC, aC, put, nth, aI, builtin, eT]
    have hv' := hv.aT (h' := H) fun j q => o j (by have := hv.live hf q; omega)
    have hlen := hv.rds.length
    refine IP (HB r hv'.rds h1 hc f) fun v2 h2 n2 hn2 hh => ?_
    simp only [aB, fgr, execOp, opd, aC, put, nth, aA, gB]
    rcases hh with ⟨e1, e2, e3, e4⟩ | ⟨e1, e2, e3, e4⟩
    · subst e1; subst e2; subst e3; subst e4
      have : xs = [] := List.eq_nil_of_length_eq_zero (by omega)
      subst this
      exact ⟨.zero n 0 _ r (Nat.zero_le _), (fun j q => by injection q with q; omega), fun j hj => o j (by omega)⟩
    · subst e2; subst e3; subst e4
      have hxl : xs.length = cnt := by omega
      exact ⟨.sl (n + 1) cnt xs xs (aU _ _ _) (by omega) (by omega) (List.take_of_length_le (by omega)), (fun j q => by injection q with q; omega), fun j hj => by rw [aR _ _ (by omega), o j (by omega)]⟩
theorem f41 (x : Nat) (L : List Ver) (D M : Nat → Prop) (h : Hp) (n : Nat) (hs : Ix h n D M x L) (hc : L.length ≤ 1000000) (hf : bK h n) :
    Wp (aZ env (evalW env) 41 [.ptr x 0]) h n fun v' h' n' => ∃ y M', v' = .ptr y 0 ∧ Ix h' n' D M' y L ∧ (∀ j, M' j → n ≤ j) ∧ Old h h' n := by
  obtain ⟨⟨S, s0, rS, perm⟩, rL, ok⟩ := hs
  have s00 := s0
  obtain ⟨vl, vs, xl, xs, iv, mx, ml, ms, mn⟩ := s00
  refine bI ff41 fi41 ?_
  simp only [U4, Try.f41, Option.getD_some, List.replicate, aB, fgr, hkr, execOp, opd, bC, ofValue, aC, put, nth, aA, aI, aD, ended, aP, aQ, Nat.reduceSub, gL, gI]
  refine dZ (f73 x _ true h n iv.row rfl) ?_
  simp only [aB, fgr, hkr, execOp, opd, bC, aC, put, nth, aA, aI, aD, gL, gB]
  refine bB hf (f40 h n hf) fun v1 h1 n1 hn1 f1 ⟨y, e1, hy, i1, o1⟩ => ?_
  subst e1
  obtain ⟨⟨S1, ⟨vl1, vs1, xl1, xs1, jv, _⟩, _⟩, _⟩ := i1
  have yn := jv.xn
  obtain ⟨e0, jr⟩ := jv.row
  have row1 := iv.row.aT (o1 x iv.xn)
  have lp1 := iv.l.aT (h' := h1) fun j q => o1 j (mn j (ml j q)).1
  have ls1 := iv.s.aT (h' := h1) fun j q => o1 j (mn j (ms j q)).1
  have xn := iv.xn
  have xy : x ≠ y := by omega
  have hSl : S.length = L.length := perm.length_eq.symm
  simp only [aB, fgr, execOp, opd, aC, put, nth, aA]
  refine cB ⟨rfl, ?_⟩
  simp only [aF, aH, aB, tyr, execOp, opd, aC, put, nth, und, sizeOf, nilCheck, aV, aO, fieldAddr, Nat.reduceAdd, gL, gI]
  rw [bL (row1.one (off := 1) rfl pJ rfl)]
  simp only [aF, hkr, execOp, opd, bC, aC, put, nth, aI, aD, Nat.reduceAdd, gL]
  have fo1 : ∀ S : Nat → Bool, bK (only S h1) n1 := fun S => f1.only
  refine vM (fun j => decide (bD vl = some j)) f1 (f86 vl L.length xl (only (fun j => decide (bD vl = some j)) h1) n1 (lp1.aT fun j q => gM (decide_eq_true q)) iv.lp.cells hc (fo1 _)) fun v2 h2 n2 r2 w2 hr2 hn2 f2 ⟨l2, i2, o2⟩ hin hout hr hw => ?_
  have vln : ∀ j, bD vl = some j → j < n ∧ j ≠ x ∧ j ≠ y := fun j q => by
    have h1 := (mn j (ml j q)).1
    exact ⟨h1, (iv.vlx j q).1, by omega⟩
  have vsn : ∀ j, bD vs = some j → j < n ∧ j ≠ x ∧ j ≠ y := fun j q => by
    have h1 := (mn j (ms j q)).1
    exact ⟨h1, (iv.vsx j q).1, by omega⟩
  have old2 : Old h1 h2 n1 := fun j hj => by
    by_cases q : bD vl = some j
    · rw [hin j (.inl (decide_eq_true q)), o2 j hj, gM (decide_eq_true q)]
    · exact hout j hj (decide_eq_false q)
  have l2' : Lp h2 v2 L.length xl := l2.aT fun j q => hin j (.inr (i2 j q).1)
  simp only [aF, aH, aB, tyr, execOp, opd, aC, put, nth, und, sizeOf, nilCheck, aV, aO, fieldAddr, Nat.reduceAdd, gL, gI]
  rw [bL ((row1.aT (old2 x (by have := iv.xn; omega))).one (off := 3) rfl pJ rfl)]
  simp only [aF, hkr, execOp, opd, bC, aC, put, nth, aI, aD, Nat.reduceAdd, gL]
  have ls2 := ls1.aT (h' := h2) fun j q => old2 j (by have := (vsn j q).1; omega)
  have fo2 : ∀ S : Nat → Bool, bK (only S h2) n2 := fun S => f2.only
  refine vM (fun j => decide (bD vs = some j)) f2 (f86 vs S.length xs (only (fun j => decide (bD vs = some j)) h2) n2 (ls2.aT fun j q => gM (decide_eq_true q)) iv.sp.cells (by omega) (fo2 _)) fun v3 h3 n3 r3 w3 hr3 hn3 f3 ⟨l3, i3, o3⟩ hin3 hout3 hr3' hw3 => ?_
  have old3 : Old h2 h3 n2 := fun j hj => by
    by_cases q : bD vs = some j
    · rw [hin3 j (.inl (decide_eq_true q)), o3 j hj, gM (decide_eq_true q)]
    · exact hout3 j hj (decide_eq_false q)
  have l3' : Lp h3 v3 S.length xs := l3.aT fun j q => hin3 j (.inr (i3 j q).1)
  have l2'' : Lp h3 v2 L.length xl := l2'.aT fun j q => old3 j (i2 j q).2
  have jr3 : h3 y = some (.row (.l [.bool true, vl1, fo false, vs1, fo true]) e0) := by rw [old3 y (by omega), old2 y (by omega)]; exact jr
  simp only [aF, aH, aB, tyr, execOp, opd, aC, put, nth, und, sizeOf, nilCheck, aV, aO, fieldAddr, Nat.reduceAdd, gL, gI]
  have k2 := l2.rds.kind
  have k3 := l3.rds.kind
  refine kA (Row.write (v := v2) jr3 pJ (by rw [k2.1]; rfl) (by show 1 + 1 ≤ 5; omega) (by rw [k2.1]; simp [k2.2.1])) ?_
  rw [k2.1, show bX [.bool true, vl1, fo false, vs1, fo true] 1 [v2] = [.bool true, v2, fo false, vs1, fo true] from rfl]
  simp only [aF, aH, aB, tyr, execOp, opd, aC, put, nth, und, sizeOf, nilCheck, aV, aO, fieldAddr, Nat.reduceAdd, gL, gI]
  refine kA (Row.write (v := v3) (aU _ _ _) pJ (by rw [k3.1]; rfl) (by show 3 + 1 ≤ 5; omega) (by rw [k3.1]; simp [k3.2.1])) ?_
  rw [k3.1, show bX [.bool true, v2, fo false, vs1, fo true] 3 [v3] = [.bool true, v2, fo false, v3, fo true] from rfl]
  simp only [bS, aB, fgr, execOp, opd, aC, put, nth, aA, Nat.reduceAdd, gB]
  have nx2 : x ∉ w2 := fun q => (vln x (of_decide_eq_true (hw x q))).2.1 rfl
  have ny2 : y ∉ w2 := fun q => (vln y (of_decide_eq_true (hw y q))).2.2 rfl
  have nry2 : y ∉ r2 := fun q => (vln y (of_decide_eq_true (hr y q))).2.2 rfl
  have nx3 : x ∉ w3 := fun q => (vsn x (of_decide_eq_true (hw3 x q))).2.1 rfl
  have ny3 : y ∉ w3 := fun q => (vsn y (of_decide_eq_true (hw3 y q))).2.2 rfl
  have nry3 : y ∉ r3 := fun q => (vsn y (of_decide_eq_true (hr3' y q))).2.2 rfl
  refine ⟨(by (try simp (disch := first | assumption | omega) only [cV, List.all_cons, List.all_nil, gB, gF]); repeat' (first | rfl | exact (Bool.or_eq_true _ _).mpr (.inr rfl) | refine (Bool.and_eq_true _ _).mpr ⟨?_, ?_⟩)), ?_⟩
  obtain ⟨H4, hH4⟩ : ∃ H4, H4 = upd (upd h3 y (some (Blk.row (bM.l [a9.bool true, v2, fo false, vs1, fo true]) e0))) y (some (Blk.row (bM.l [a9.bool true, v2, fo false, v3, fo true]) e0)) := ⟨_, rfl⟩
  have o4 : ∀ j, j ≠ y → H4 j = h3 j := fun j hj => by rw [hH4, aR _ _ hj, aR _ _ hj]
  have r4 : Row H4 y [.bool true, v2, fo false, v3, fo true] := by rw [hH4]; exact Row.new _ _ _ _
  rw [← hH4]
  clear hH4
  have old4 : Old h H4 n := fun j hj => by rw [o4 j (by omega), old3 j (by omega), old2 j (by omega), o1 j hj]
  have hdn := iv.dn
  refine ⟨y, fun j => j = y ∨ bD v2 = some j ∨ bD v3 = some j, rfl, ⟨⟨S, ⟨v2, v3, xl, xs, ⟨r4, l2''.aT fun j q => o4 j (by have := i2 j q; omega), iv.lp.mono (fun j q => q) (fun j q => old4 j (hdn j q)), l3'.aT fun j q => o4 j (by have := i3 j q; omega), iv.sp.mono (fun j q => q) (fun j q => old4 j (hdn j q)), by omega, fun j q => by have := hdn j q; omega, fun q => by have := hdn y q; omega, fun j q => ⟨by have := i2 j q; omega, fun w => by have := hdn j w; have := i2 j q; omega⟩, fun j q => ⟨by have := i3 j q; omega, fun w => by have := hdn j w; have := i3 j q; omega, fun w => by have := i2 j w; have := i3 j q; omega⟩⟩, .inl rfl, fun j q => .inr (.inl q), fun j q => .inr (.inr q), fun j q => ?_⟩, rS, perm⟩, rL, ok⟩, fun j q => ?_, old4⟩
  · rcases q with q | q | q
    · subst q; exact ⟨by omega, fun w => by have := hdn _ w; omega⟩
    · have := i2 j q; exact ⟨by omega, fun w => by have := hdn j w; omega⟩
    · have := i3 j q; exact ⟨by omega, fun w => by have := hdn j w; omega⟩
  · rcases q with q | q | q
    · omega
    · have := i2 j q; omega
    · have := i3 j q; omega
def kpB (ls : List (List UInt8)) (j : Nat) : Bool := j == 0 || (ls.getD j [] != ls.getD (j - 1) [])
def kp (ls : List (List UInt8)) (m : Nat) : List Nat := (List.range m).filter (kpB ls)
structure Bs (h : Hp) (D : Nat → Prop) (xs : List a9) (ls : List (List UInt8)) : Prop where
  len : xs.length = ls.length
  at_ : ∀ (j : Nat) (hj : j < ls.length), ∃ x, xs[j]? = some x ∧ Bytes h x ls[j] ∧ ∀ i, bD x = some i → D i
theorem Bs.nil (h : Hp) (D : Nat → Prop) : Bs h D [] [] := ⟨rfl, fun j hj => by simp at hj⟩
theorem Bs.mono {h h' : Hp} {D D' : Nat → Prop} {xs : List a9} {ls : List (List UInt8)} (p : Bs h D xs ls) (hd : ∀ j, D j → D' j) (hk : ∀ j, D j → h' j = h j) : Bs h' D' xs ls :=
  ⟨p.len, fun j hj => by
    obtain ⟨x, e, b, d⟩ := p.at_ j hj
    exact ⟨x, e, b.aT fun i q => hk i (d i q), fun i q => hd i (d i q)⟩⟩
theorem Bs.snoc {h : Hp} {D : Nat → Prop} {xs : List a9} {ls : List (List UInt8)} (p : Bs h D xs ls) {x : a9} {l : List UInt8} (hb : Bytes h x l) (hd : ∀ i, bD x = some i → D i) : Bs h D (xs ++ [x]) (ls ++ [l]) := by
  refine ⟨by simp [p.len], fun j hj => ?_⟩
  by_cases c : j < ls.length
  · obtain ⟨y, e, b, d⟩ := p.at_ j c
    refine ⟨y, ?_, ?_, d⟩
    · rw [List.getElem?_append_left (by rw [p.len]; exact c), e]
    · rw [List.getElem_append_left c]; exact b
  · have e : j = ls.length := by simp at hj; omega
    subst e
    refine ⟨x, ?_, ?_, hd⟩
    · rw [← p.len]; simp
    · simpa using hb
theorem Bs.kind {h : Hp} {D : Nat → Prop} {xs : List a9} {ls : List (List UInt8)} (p : Bs h D xs ls) : xs.all bJ = true := LS fun j x hx => by
  have hj := (List.getElem?_eq_some_iff.1 hx).1
  obtain ⟨y, e, b, _⟩ := p.at_ j (by rw [← p.len]; exact hj)
  rw [hx] at e
  injection e with e
  rw [e]; exact b.kind.2.1
def BL (h : Hp) (n0 n : Nat) (v : a9) (ls : List (List UInt8)) : Prop := ∃ xs, Lst h 29 1 v ls.length xs ∧ Bs h (fun j => n0 ≤ j ∧ j < n ∧ bD v ≠ some j) xs ls ∧ ∀ j, bD v = some j → n0 ≤ j ∧ j < n
theorem BL.aT {h h' : Hp} {a b : Nat} {v : a9} {ls : List (List UInt8)} (l : BL h a b v ls) (hk : ∀ j, a ≤ j → j < b → h' j = h j) : BL h' a b v ls := by
  obtain ⟨cells, c1, c2, c3⟩ := l
  exact ⟨cells, c1.aT fun j q => hk j (c3 j q).1 (c3 j q).2, c2.mono (fun j q => q) (fun j q => hk j q.1 q.2.1), c3⟩
theorem BL.old {h h' : Hp} {a b n : Nat} {v : a9} {ls : List (List UInt8)} (l : BL h a b v ls) (hn : b ≤ n) (hk : Old h h' n) : BL h' a b v ls := l.aT fun j _ q => hk j (by omega)
theorem BL.len {h : Hp} {a b : Nat} {v : a9} {ls : List (List UInt8)} (l : BL h a b v ls) {u : TypeId} {ts : List TypeId} (hu : und env u = M.pure (.slice 29)) : cI env (u :: ts) v = M.pure (.int .i64 (ls.length : Nat)) := by
  obtain ⟨cells, c1, c2, c3⟩ := l
  exact c1.rds.cI hu
theorem u81 : und env 81 = M.pure (.slice 29) := rfl
theorem z29 : sizeOf env 29 = M.pure 1 := rfl
theorem BL.idx {h : Hp} {a b : Nat} {v : a9} {ls : List (List UInt8)} (l : BL h a b v ls) {i : Nat} (hi : i < ls.length) {h' : Hp} {n' : Nat} : Rd (indexAddr env 81 v (.int .i64 ((i : Nat) : Int))) h' n' [] (addrOf (i * 1) v) := by
  obtain ⟨cells, c1, c2, c3⟩ := l
  exact c1.rds.idx u81 z29 rfl hi
theorem BL.at_ {h : Hp} {a b : Nat} {v : a9} {ls : List (List UInt8)} (l : BL h a b v ls) {i : Nat} (hi : i < ls.length) : ∃ x, (∀ n, Rd (load env 29 (addrOf (i * 1) v)) h n (rid v) x) ∧ Bytes h x ls[i] ∧ ∀ j, bD x = some j → a ≤ j ∧ j < b := by
  obtain ⟨cells, c1, c2, c3⟩ := l
  obtain ⟨x, e, b, d⟩ := c2.at_ i hi
  exact ⟨x, fun n => c1.rds.load tK rfl (by rw [Nat.mul_one]; exact e), b, fun j q => ⟨(d j q).1, (d j q).2.1⟩⟩
def total (L : List Ver) (z : Int) (ds : List (List UInt8)) : Nat := (ds.map fun d => (ofV L d z).length).sum
theorem OJ {L : List Ver} {z : Int} {v : Ver} (hv : v ∈ L) (ht : there v z = true) : (atV L v.hash v.pn z).isSome = true := by
  unfold atV
  cases e : (L.filter fun w => same v.hash v.pn w && there w z).getLast? with
  | some a => rfl
  | none =>
    rw [List.getLast?_eq_none_iff] at e
    have : v ∈ L.filter fun w => same v.hash v.pn w && there w z := List.mem_filter.2 ⟨hv, by simp [ht, same]⟩
    rw [e] at this
    cases this
structure LU (h : Hp) (n : Nat) (N : a9) : Prop where
  k : N = .nilp ∨ ∃ x, N = .ptr x 0
  f : ∀ h' n', Old h h' n → Wp (aZ env (evalW env) 73 [N]) h' n' fun v a b => v = .bool true ∧ a = h' ∧ b = n'
theorem LU.old {h h' : Hp} {n n' : Nat} {N : a9} (q : LU h n N) (hn : n ≤ n') (ho : Old h h' n) : LU h' n' N := ⟨q.k, fun h2 n2 o => q.f h2 n2 fun j hj => by rw [o j (by omega), ho j hj]⟩
theorem LU.kind {h : Hp} {n : Nat} {N : a9} (q : LU h n N) : N.cells = [N] ∧ bJ N = true ∧ dT N = false := by
  rcases q.k with e | ⟨x, e⟩ <;> subst e <;> exact ⟨rfl, rfl, rfl⟩
def nv (pn made value spent : Int) (s : List UInt8) : Ver := ⟨z0, pn, made, value, s, false, spent, z0⟩
def a4 : Ver := nv 3 4 0 4 []
def a6 : Ver := nv 3 6 2 0 []
def b1v : Ver := nv 1 0 0 0 [98]
def L3 : List Ver := [b1v, a4, a6]
theorem BL.get {h : Hp} {a b : Nat} {v : a9} {ls : List (List UInt8)} (l : BL h a b v ls) {i : Nat} {z : Int} (hz : z = (i : Nat)) (hi : i < ls.length) : ∃ x, (∀ h' n', Rd (indexAddr env 81 v (.int .i64 z)) h' n' [] (addrOf (i * 1) v)) ∧ (∀ n, Rd (load env 29 (addrOf (i * 1) v)) h n (rid v) x) ∧ Bytes h x ls[i] := by
  subst hz
  obtain ⟨x, e, bs, d⟩ := l.at_ hi
  exact ⟨x, fun h' n' => l.idx hi, e, bs⟩
abbrev Pt := List UInt8 × Int
def ptA (p : Pt) : a9 := .agg (aX p.1 p.2)
theorem C8 {a b : UInt8} (h : u8 a = u8 b) : a = b := by
  unfold u8 at h
  injection h with h1 h2
  exact UInt8.toNat_inj.1 (by omega)
theorem lA : ∀ {a b : List UInt8}, a.map u8 = b.map u8 → a = b
  | [], [], _ => rfl
  | [], _ :: _, h => by cases h
  | _ :: _, [], h => by cases h
  | x :: a, y :: b, h => by
    simp only [List.map_cons, List.cons.injEq] at h
    rw [C8 h.1, lA h.2]
theorem qT {p q : Pt} (h : ptA p = ptA q) : p = q := by
  unfold ptA aX at h
  injection h with h
  obtain ⟨h1, h2⟩ := List.append_inj' h rfl
  injection h2 with h2
  injection h2 with _ h2
  exact Prod.ext (lA h1) h2
noncomputable def isK (k a : a9) : Bool := @decide (a = k) (Classical.propDecidable _)
theorem lS {k a : a9} : isK k a = true ↔ a = k := by unfold isK; exact @decide_eq_true_iff _ (Classical.propDecidable _)
theorem vE {k a : a9} (h : a ≠ k) : isK k a = false := by
  cases e : isK k a with
  | false => rfl
  | true => exact absurd (lS.1 e) h
theorem uE (p q : Pt) (l1 : p.1.length = 32) (l2 : q.1.length = 32) : bG env 28 (ptA p) (ptA q) = M.pure (isK (ptA p) (ptA q)) := by
  have e : bG env 28 (ptA p) (ptA q) = M.pure (decide (p.1 = q.1) && (p.2 == q.2)) := NW 97 p.1 q.1 p.2 q.2 l1 l2
  rw [e]
  congr 1
  by_cases c : p = q
  · subst c
    rw [lS.2 rfl]; simp
  · rw [vE fun w => c (qT w).symm]
    by_cases d : p.1 = q.1
    · rw [decide_eq_true d, Bool.true_and, beq_eq_false_iff_ne]
      exact fun w => c (Prod.ext d w)
    · rw [decide_eq_false d]; rfl
theorem JH (d : Nat) (x : UInt8) : iP env (d + 1) 5 (u8 x) = M.pure () := by
  simp only [iP, und, ti5, bind_pure]
theorem mO {α : Type} {f : α → M Unit} : ∀ (l : List α), (∀ x ∈ l, f x = M.pure ()) → zZ f l = M.pure ()
  | [], _ => rfl
  | x :: l, h => by simp only [zZ, h x (List.mem_cons_self ..), bind_pure, mO l fun y hy => h y (List.mem_cons_of_mem _ hy)]
theorem D3 (d : Nat) (a : List UInt8) (ha : a.length = 32) : iP env (d + 1 + 1) 25 (.agg (a.map u8)) = M.pure () := by
  rw [iP]
  simp only [und, mR, bind_pure, dQ, sizeOf, ti5]
  refine mO _ fun i hi => ?_
  have hi := List.mem_range.1 hi
  rw [Nat.mul_one, uT (by omega), bind_pure, JH]
theorem sI (p : Pt) (l1 : p.1.length = 32) : iP env 100 28 (ptA p) = M.pure () := by
  have p0 : part env 25 (aX p.1 p.2) 0 = M.pure (.agg (p.1.map u8)) := by
    simp only [part, mR, bind_pure, eD, List.drop_zero]
    rw [show (aX p.1 p.2).take 32 = p.1.map u8 by unfold aX; rw [List.take_append_of_le_length (by simp [l1]), List.take_of_length_le (by simp [l1])]]
  have p1 : part env 26 (aX p.1 p.2) 32 = M.pure (.int .u32 p.2) := by
    simp only [part, nH, bind_pure, eD, gQ l1, aV]
  have p2 : iP env (97 + 1 + 1) 26 (.int .u32 p.2) = M.pure () := by
    rw [iP]; simp only [und, nH, bind_pure]
  unfold ptA
  show iP env (97 + 1 + 1 + 1) 28 (.agg (aX p.1 p.2)) = M.pure ()
  rw [iP]
  simp only [und, j3, bind_pure, dQ]
  simp only [zZ, show decide ("Tx" = "_") = false from rfl, show decide ("N" = "_") = false from rfl, p0, p1, bind_pure, D3 97 p.1 l1, p2]
def jU (q : List Pt) (p : Pt) : Nat := q.countP fun x => decide (x = p)
theorem uS (q : List Pt) (p x : Pt) : jU (q ++ [p]) x = jU q x + if p = x then 1 else 0 := by
  unfold jU
  rw [List.countP_append, List.countP_singleton]
  congr 1
  by_cases c : p = x <;> simp [c]
theorem ML (q : List Pt) (p : Pt) : jU q p ≤ q.length := List.countP_le_length
def jC (q dd : List Pt) : List (a9 × a9) := dd.map fun p => (ptA p, .int .i64 (jU q p : Nat))
structure Pm (h : Hp) (id : Nat) (q : List Pt) : Prop where
  ex : ∃ b dd, gH h id b (jC q dd) ∧ dd.Nodup ∧ (∀ p ∈ dd, p.1.length = 32) ∧ ∀ p, p ∈ dd ↔ p ∈ q
theorem Pm.aT {h h' : Hp} {id : Nat} {q : List Pt} (m : Pm h id q) (hk : h' id = h id) : Pm h' id q := by
  obtain ⟨b, dd, a, r⟩ := m
  exact ⟨b, dd, a.aT hk, r⟩
theorem BW (q : List Pt) (p : Pt) : ∀ (dd : List Pt) (i : Nat), (p ∉ dd ∧ fC (isK (ptA p)) (jC q dd) i = none) ∨ ∃ j, j < dd.length ∧ dd[j]? = some p ∧ fC (isK (ptA p)) (jC q dd) i = some (i + j, .int .i64 (jU q p : Nat))
  | [], i => .inl ⟨List.not_mem_nil, rfl⟩
  | x :: dd, i => by
    by_cases c : x = p
    · subst c
      refine .inr ⟨0, by simp, rfl, ?_⟩
      simp only [jC, List.map_cons, fC, lS.2 rfl, Nat.add_zero, if_pos]
    · have e : fC (isK (ptA p)) (jC q (x :: dd)) i = fC (isK (ptA p)) (jC q dd) (i + 1) := by
        simp only [jC, List.map_cons, fC, vE fun w => c (qT w), Bool.false_eq_true, if_neg, not_false_eq_true]
      rcases BW q p dd (i + 1) with ⟨h1, h2⟩ | ⟨j, h1, h2, h3⟩
      · refine .inl ⟨fun w => ?_, e.trans h2⟩
        rcases List.mem_cons.1 w with w | w
        · exact c w.symm
        · exact h1 w
      · exact .inr ⟨j + 1, by simpa using h1, by simpa using h2, by rw [e, h3, Nat.add_assoc, Nat.add_comm 1 j]⟩
theorem xM {q : List Pt} {p : Pt} (h : p ∉ q) : jU q p = 0 := by
  unfold jU
  rw [List.countP_eq_zero]
  intro x hx
  simp only [decide_eq_true_eq]
  rintro rfl
  exact h hx
theorem C9 : und env 161 = M.pure (.map 28 3) := rfl
theorem z3o : zeroOf env 3 = M.pure (.int .i64 0) := rfl
theorem IJ {q dd : List Pt} {p : Pt} (l1 : p.1.length = 32) (hl : ∀ p ∈ dd, p.1.length = 32) : ∀ e ∈ jC q dd, bG env 28 (ptA p) e.1 = M.pure (isK (ptA p) e.1) := fun e he => by
  obtain ⟨x, hx, rfl⟩ := List.mem_map.1 he
  exact uE p x l1 (hl x hx)
theorem Pm.lookup {h : Hp} {n id : Nat} {q : List Pt} (m : Pm h id q) {p : Pt} (l1 : p.1.length = 32) : Rd (iS env 161 (.map id) (ptA p) false) h n [id] (.int .i64 (jU q p : Nat)) := by
  obtain ⟨b, dd, a, nd, hl, hm⟩ := m
  have := a.lookup (n := n) C9 (sI p l1) (IJ l1 hl) z3o
  rcases BW q p dd 0 with ⟨h1, h2⟩ | ⟨j, h1, h2, h3⟩
  · rw [h2] at this
    rw [xM fun w => h1 ((hm p).2 w)]
    exact this
  · rw [h3] at this
    exact this
def pcv (q : List Pt) (x : Pt) : Pt × Int := (x, ((jU q x : Nat) : Int))
theorem AK (q dd : List Pt) : (dd.map (pcv q)).map Ins.cv = jC q dd := by
  rw [List.map_map]; rfl
theorem EG (q : List Pt) (p : Pt) : ∀ (dd : List Pt) (i : Nat), (p ∉ dd ∧ Ins.idxOf p (dd.map (pcv q)) i = none) ∨ ∃ j, j < dd.length ∧ dd[j]? = some p ∧ Ins.idxOf p (dd.map (pcv q)) i = some (i + j, ((jU q p : Nat) : Int))
  | [], i => .inl ⟨List.not_mem_nil, rfl⟩
  | x :: dd, i => by
    by_cases c : x = p
    · subst c
      exact .inr ⟨0, by simp, rfl, by simp [Ins.idxOf, pcv]⟩
    · have e : Ins.idxOf p ((x :: dd).map (pcv q)) i = Ins.idxOf p (dd.map (pcv q)) (i + 1) := by
        simp only [List.map_cons, Ins.idxOf, pcv]
        rw [if_neg c]
      rcases EG q p dd (i + 1) with ⟨h1, h2⟩ | ⟨j, h1, h2, h3⟩
      · refine .inl ⟨fun w => ?_, e.trans h2⟩
        rcases List.mem_cons.1 w with w | w
        · exact c w.symm
        · exact h1 w
      · exact .inr ⟨j + 1, by simpa using h1, by simpa using h2, by rw [e, h3, Nat.add_assoc, Nat.add_comm 1 j]⟩
theorem DM {q dd : List Pt} {p : Pt} (nd : dd.Nodup) (hm : ∀ p, p ∈ dd ↔ p ∈ q) (hq : q.length ≤ 10000000) : ∃ dd' : List Pt, Ins.bump p (dd.map (pcv q)) = dd'.map (pcv (q ++ [p])) ∧ dd'.Nodup ∧ ∀ x, x ∈ dd' ↔ x ∈ q ++ [p] := by
  have hle := ML q p
  rcases EG q p dd 0 with ⟨h1, h2⟩ | ⟨j, h1, h2, h3⟩
  · have hnq : p ∉ q := fun w => h1 ((hm p).2 w)
    refine ⟨dd ++ [p], ?_, ?_, fun x => by rw [List.mem_append, List.mem_append, hm]⟩
    · unfold Ins.bump
      rw [h2, List.map_append]
      have e2 : dd.map (pcv (q ++ [p])) = dd.map (pcv q) := List.map_congr_left fun x hx => by
        unfold pcv
        rw [uS, if_neg (fun w => h1 (by rw [w]; exact hx))]; rfl
      rw [e2]
      simp only [List.map_cons, List.map_nil, pcv]
      rw [uS, if_pos rfl, xM hnq]; rfl
    · rw [List.nodup_append]
      exact ⟨nd, by simp, fun x hx y hy => by rw [List.mem_singleton] at hy; subst hy; exact fun w => h1 (w ▸ hx)⟩
  · rw [Nat.zero_add] at h3
    refine ⟨dd, ?_, nd, fun x => ?_⟩
    · unfold Ins.bump
      rw [h3]
      simp only
      rw [w64 (by omega) (by omega)]
      refine List.ext_getElem? fun i => ?_
      rw [List.getElem?_modify, List.getElem?_map, List.getElem?_map]
      cases ed : dd[i]? with
      | none => rfl
      | some x =>
        simp only [Option.map_some, Option.map_eq_map]
        unfold pcv
        rw [uS]
        by_cases c : j = i
        · subst c
          rw [h2] at ed
          injection ed with ed
          subst ed
          simp
        · simp only [if_neg c]
          rw [if_neg fun w => c ?_]
          · simp
          · subst w
            obtain ⟨_, e1⟩ := List.getElem?_eq_some_iff.1 h2
            obtain ⟨_, e2⟩ := List.getElem?_eq_some_iff.1 ed
            exact (List.getElem_inj nd).1 (e1.trans e2.symm)
    · rw [hm, List.mem_append, List.mem_singleton]
      constructor
      · exact fun w => .inl w
      · rintro (w | w)
        · exact w
        · subst w; exact (hm x).1 (List.mem_of_getElem? h2)
theorem DV {h : Hp} {n id x : Nat} {tm : List a9} {mm cc : Nat} {ts : List Nat} {cells : List a9} {p : Pt} {q : List Pt} {Q : fQ × List a9 → Hp → Nat → Prop}
    (hm : nth tm mm undef = .map id) (hc : nth tm cc undef = .ptr x 0) (hts : ts.all (fun t => t.blt tm.length) = true) (hr : Row h x cells) (he : cells.take 33 = aX p.1 p.2) (l1 : p.1.length = 32) (m : Pm h id q) (hq : q.length ≤ 10000000)
    (hQ : ∀ H2, (∀ j, j ≠ id → H2 j = h j) → Pm H2 id (q ++ [p]) → Q (.normal, Ins.tC tm ts) H2 n) : Wp (Ins.pE mm cc ts tm) h n Q := by
  obtain ⟨b, dd, a, nd, hl, hmm⟩ := m
  obtain ⟨t, hr⟩ := hr
  obtain ⟨dd', e1, e2, e3⟩ := DM (p := p) nd hmm hq
  have a' := a
  unfold gH at a'
  have hb : Ins.BS (.row (.l cells) t) (.map (gS b (jC q dd)) (b + (jC q dd).length)) = some (p, b, dd.map (pcv q)) := by
    have q1 : Ins.CH (cells.take 33) = some p := by rw [he]; exact Ins.E6 l1
    have q2 : b + (jC q dd).length - (gS b (jC q dd)).length = b := by rw [rM]; omega
    have q3 : Ins.mZ b (gS b (jC q dd)) = some (dd.map (pcv q)) := by
      rw [← AK]
      exact Ins.rO _ _ fun x hx => by
        obtain ⟨y, hy, rfl⟩ := List.mem_map.1 hx
        exact hl y hy
    have q4 : (gS b (jC q dd)).length.ble (b + (jC q dd).length) = true := by rw [rM]; exact cT (by omega)
    unfold Ins.BS
    simp only [q1, q2, q3, q4]
  have hp : gH (upd h id (some (.map (gS b ((Ins.bump p (dd.map (pcv q))).map Ins.cv)) (b + (Ins.bump p (dd.map (pcv q))).length)))) id b (jC (q ++ [p]) dd') := by
    unfold gH
    rw [aU, e1, AK]
    simp only [jC, List.length_map]
  unfold Ins.pE
  simp only [hm, hc, hts, Nat.beq_refl, Bool.true_and, eW, hr, a', Option.some.injEq, exists_eq_left', hb, kO, wp_pure]
  refine ⟨by simp [], hQ _ (fun j hj => aR _ _ hj) ⟨b, dd', hp, e2, fun x hx => ?_, e3⟩⟩
  rcases List.mem_append.1 ((e3 x).1 hx) with w | w
  · exact hl x ((hmm x).2 w)
  · rw [List.mem_singleton] at w; subst w; exact l1
theorem Pm.clear {h : Hp} {n id : Nat} {q : List Pt} (m : Pm h id q) : ∃ h2, Wr (oN env [161] (.map id)) h n [id] [id] (a9.tup []) h2 ∧ (∀ j, j ≠ id → h2 j = h j) ∧ Pm h2 id [] := by
  obtain ⟨b, dd, a, nd, hl, hm⟩ := m
  obtain ⟨h2, w, a2, k⟩ := a.clear (n := n) (ts := []) C9
  exact ⟨h2, w, k, _, [], a2, List.nodup_nil, (fun p hp => by cases hp), (fun p => ⟨fun w => (by cases w), fun w => (by cases w)⟩)⟩
theorem Pm.new {h : Hp} {id : Nat} (e : h id = some (.map [] 0)) : Pm h id [] := ⟨0, [], e, List.nodup_nil, (fun p hp => by cases hp), (fun p => ⟨fun w => (by cases w), fun w => (by cases w)⟩)⟩
structure Spd where
  hash : List UInt8
  pn : Int
  by_ : List UInt8
def eO (s : Spd) : List a9 := aX s.hash s.pn ++ s.by_.map u8
structure Spd.Ok (s : Spd) : Prop where
  h : s.hash.length = 32
  b : s.by_.length = 32
theorem kU {s : Spd} (o : s.Ok) : (eO s).length = 65 := by simp [eO, bY o.h, o.b]
theorem pX (s : Spd) : (eO s).all bJ = true := by
  unfold eO
  rw [List.all_append, pY, List.all_map]
  simp [u8, bJ]
theorem HW {s : Spd} (o : s.Ok) : (eO s).take 33 = aX s.hash s.pn := by
  unfold eO; rw [List.take_append_of_le_length (by rw [bY o.h]; omega), List.take_of_length_le (by rw [bY o.h]; omega)]
theorem tX {h : Hp} {n id : Nat} {s : Spd} (hr : Row h id (eO s)) (o : s.Ok) : Rd (load env 28 (.ptr id 0)) h n [id] (.agg (aX s.hash s.pn)) := by
  have := hr.agg (E := env) (n := n) (off := 0) j3 rfl (by rw [kU o]; decide)
  have e : ((eO s).drop 0).take 33 = aX s.hash s.pn := by unfold eO; rw [List.drop_zero, List.take_append_of_le_length (by rw [bY o.h]; omega), List.take_of_length_le (by rw [bY o.h]; omega)]
  exact e ▸ this
theorem MB {h : Hp} {n id : Nat} {s : Spd} (hr : Row h id (eO s)) (o : s.Ok) : Rd (load env 25 (.ptr id 33)) h n [id] (.agg (s.by_.map u8)) := by
  have := hr.agg (E := env) (n := n) (off := 33) mR rfl (by rw [kU o]; decide)
  have e : ((eO s).drop 33).take 32 = s.by_.map u8 := by unfold eO; rw [← bY (pn := s.pn) o.h, List.drop_left, List.take_of_length_le (by simp [o.b])]
  exact e ▸ this
def SL (h : Hp) (a b : Nat) (v : a9) (ss : List Spd) : Prop := ∃ cells, Lst h 48 65 v ss.length cells ∧ (∀ (j : Nat) (hj : j < ss.length), (cells.drop (j * 65)).take 65 = eO ss[j] ∧ ss[j].Ok) ∧ ∀ j, bD v = some j → a ≤ j ∧ j < b
theorem SL.aT {h h' : Hp} {a b : Nat} {v : a9} {ss : List Spd} (l : SL h a b v ss) (hk : ∀ j, a ≤ j → j < b → h' j = h j) : SL h' a b v ss := by
  obtain ⟨cells, c1, c2, c3⟩ := l
  exact ⟨cells, c1.aT fun j q => hk j (c3 j q).1 (c3 j q).2, c2, c3⟩
theorem u44 : und env 44 = M.pure (.slice 48) := rfl
theorem z48s : sizeOf env 48 = M.pure 65 := rfl
theorem SL.len {h : Hp} {a b : Nat} {v : a9} {ss : List Spd} (l : SL h a b v ss) {ts : List TypeId} : cI env (44 :: ts) v = M.pure (.int .i64 (ss.length : Nat)) := by
  obtain ⟨cells, c1, c2, c3⟩ := l
  exact c1.rds.cI u44
theorem SL.idx {h : Hp} {a b : Nat} {v : a9} {ss : List Spd} (l : SL h a b v ss) {i : Nat} (hi : i < ss.length) {h' : Hp} {n' : Nat} : Rd (indexAddr env 44 v (.int .i64 ((i : Nat) : Int))) h' n' [] (addrOf (i * 65) v) := by
  obtain ⟨cells, c1, c2, c3⟩ := l
  exact c1.rds.idx u44 z48s rfl hi
theorem SL.kind {h : Hp} {a b : Nat} {v : a9} {ss : List Spd} (l : SL h a b v ss) : v.cells = [v] ∧ bJ v = true ∧ dT v = false := by
  obtain ⟨cells, c1, c2, c3⟩ := l
  exact c1.rds.kind
theorem VL.kind {h : Hp} {a b : Nat} {v : a9} {ss : List Ver} (l : VL h a b v ss) : v.cells = [v] ∧ bJ v = true ∧ dT v = false := by
  obtain ⟨cells, c1, c2, c3⟩ := l
  exact c1.rds.kind
theorem SL.all {h : Hp} {n a b : Nat} {v : a9} {ss : List Spd} (l : SL h a b v ss) {i : Nat} (hi : i < ss.length) : ss[i].Ok ∧ Rd (load env 48 (addrOf (i * 65) v)) h n (rid v) (.agg (eO ss[i])) := by
  obtain ⟨cells, c1, c2, c3⟩ := l
  obtain ⟨e, o⟩ := c2 i hi
  refine ⟨o, ?_⟩
  have hl : cells.length = ss.length * 65 := c1.rds.length
  have := c1.rds.agg (E := env) (n := n) (k := i * 65) wS rfl (by decide) (by show i * 65 + 65 ≤ _; omega)
  have e' : (cells.drop (i * 65)).take 65 = eO ss[i] := e
  exact e' ▸ this
structure App where
  height : Int
  block : List UInt8
  made : List Ver
  spends : List Spd
  burnt : Int
  left : Int
def bH (A : App) (mv sv : a9) : List a9 := .int .i64 A.height :: (A.block.map u8 ++ [mv, sv, .int .i64 A.burnt, .int .i64 A.left])
structure jD (h : Hp) (a b : Nat) (A : App) (mv sv : a9) : Prop where
  m : VL h a b mv A.made
  s : SL h a b sv A.spends
  b : A.block.length = 32
  ml : A.made.length ≤ 1000000
  sl : A.spends.length ≤ 1000000
theorem jD.aT {h h' : Hp} {a b : Nat} {A : App} {mv sv : a9} (l : jD h a b A mv sv) (hk : ∀ j, a ≤ j → j < b → h' j = h j) : jD h' a b A mv sv := ⟨l.m.aT hk, l.s.aT hk, l.b, l.ml, l.sl⟩
theorem cH {A : App} {mv sv : a9} (hb : A.block.length = 32) : (bH A mv sv).length = 37 := by simp [bH, hb]
theorem mP {A : App} {mv sv : a9} (hb : A.block.length = 32) (k : Nat) : (bH A mv sv)[33 + k]? = [mv, sv, .int .i64 A.burnt, .int .i64 A.left][k]? := by
  unfold bH
  rw [show 33 + k = 32 + k + 1 by omega, List.getElem?_cons_succ, List.getElem?_append_right (by simp [hb]), List.length_map, hb]
  congr 1; omega
theorem sV {h : Hp} {n id : Nat} {A : App} {mv sv : a9} (hr : Row h id (bH A mv sv)) : Rd (load env 3 (.ptr id 0)) h n [id] (.int .i64 A.height) := hr.one rfl ti3 rfl
theorem m8 {h : Hp} {n id : Nat} {A : App} {mv sv : a9} (hr : Row h id (bH A mv sv)) (hb : A.block.length = 32) : Rd (load env 43 (.ptr id 33)) h n [id] mv := hr.one (mP hb 0) sG rfl
theorem sU {h : Hp} {n id : Nat} {A : App} {mv sv : a9} (hr : Row h id (bH A mv sv)) (hb : A.block.length = 32) : Rd (load env 44 (.ptr id 34)) h n [id] sv := hr.one (mP hb 1) CA rfl
theorem zY {h : Hp} {n id : Nat} {A : App} {mv sv : a9} (hr : Row h id (bH A mv sv)) (hb : A.block.length = 32) : Rd (load env 2 (.ptr id 35)) h n [id] (.int .i64 A.burnt) := hr.one (mP hb 2) ti2 rfl
theorem zX {h : Hp} {n id : Nat} {A : App} {mv sv : a9} (hr : Row h id (bH A mv sv)) (hb : A.block.length = 32) : Rd (load env 2 (.ptr id 36)) h n [id] (.int .i64 A.left) := hr.one (mP hb 3) ti2 rfl
theorem lM {h : Hp} {n id : Nat} {A : App} {mv sv : a9} (hr : Row h id (bH A mv sv)) (hb : A.block.length = 32) : Rd (load env 46 (.ptr id 0)) h n [id] (.agg (bH A mv sv)) := hr.whole lO rfl (cH hb)
theorem OL {h : Hp} {n id : Nat} {A : App} {mv sv : a9} (hr : Row h id (bH A mv sv)) (hb : A.block.length = 32) : Rd (load env 25 (.ptr id 1)) h n [id] (.agg (A.block.map u8)) := by
  have := hr.agg (E := env) (n := n) (off := 1) mR rfl (by rw [cH hb]; decide)
  have e : ((bH A mv sv).drop 1).take 32 = A.block.map u8 := by unfold bH; rw [List.drop_succ_cons, List.drop_zero, List.take_append_of_le_length (by simp [hb]), List.take_of_length_le (by simp [hb])]
  exact e ▸ this
def kZ (n : Int) : Bool := decide (0 ≤ n) && decide (n ≤ 2100000000000000)
def uD (n : Int) : Bool := decide (0 ≤ n) && decide (n ≤ 1048576)
theorem f99 (z : Int) (h : Hp) (n : Nat) : Wp (aZ env (evalW env) 99 [.int .i64 z]) h n fun v' h' n' => v' = .bool (uD z) ∧ h' = h ∧ n' = n := by
  refine bI ff99 fi99 ?_
  unfold uD
  by_cases c : 0 ≤ z
  · simp only [NO, Try.f99, Option.getD_some, List.replicate, aB, fgr, execOp, opd, ofValue, aC, put, nth, aA, bor, aJ, aK, intOp, aW, branch, ended, aP, aQ, Nat.reduceSub, ge_iff_le, c, gL, gB, gI]
  · simp only [NO, Try.f99, Option.getD_some, List.replicate, aB, fgr, execOp, opd, ofValue, aC, put, nth, aA, bor, aJ, aK, intOp, aW, branch, ended, aP, aQ, Nat.reduceSub, ge_iff_le, c, gL, gB, gI]
theorem f100 (z : Int) (h : Hp) (n : Nat) : Wp (aZ env (evalW env) 100 [.int .i64 z]) h n fun v' h' n' => v' = .bool (kZ z) ∧ h' = h ∧ n' = n := by
  refine bI ZB Y9 ?_
  unfold kZ
  by_cases c : 0 ≤ z
  · simp only [EJ, Try.f100, Option.getD_some, List.replicate, aB, fgr, execOp, opd, ofValue, aC, put, nth, aA, bor, aJ, aK, intOp, aW, branch, ended, aP, aQ, Nat.reduceSub, ge_iff_le, c, gL, gB, gI]
  · simp only [EJ, Try.f100, Option.getD_some, List.replicate, aB, fgr, execOp, opd, ofValue, aC, put, nth, aA, bor, aJ, aK, intOp, aW, branch, ended, aP, aQ, Nat.reduceSub, ge_iff_le, c, gL, gB, gI]
def ptV (v : Ver) : Pt := (v.hash, v.pn)
def ptS (s : Spd) : Pt := (s.hash, s.pn)
def mY (z : Int) (v : Ver) : Bool := decide (v.made = z) && decide (v.spent = 0) && decide (v.by_ = z32) && kZ v.value && decide (v.script.length ≤ 2000)
def G1 (z : Int) (L : List Ver) (i : Nat) : Bool := match L[i]? with
  | some v => mY z v && decide (jU ((L.take (i + 1)).map ptV) (ptV v) = 1)
  | none => true
def J2 (L : List Spd) (i : Nat) : Bool := match L[i]? with
  | some v => decide (jU ((L.take (i + 1)).map ptS) (ptS v) = 1)
  | none => true
theorem rhk4 : fV env.rhooks 113 4 Ins.yV.c = some Ins.rW := Ins.wE Ins.yV _ rfl
theorem WQ : fV env.rhooks 113 12 Ins.qR.c = some Ins.pG := by
  show fV [Ins.qR] 113 12 _ = _
  exact Ins.wE Ins.qR _ rfl
theorem G3 (Q : eB) (ks : List Kf) (Y mv sv : a9) (c id a b n0 : Nat) (A : App) (hid : n0 ≤ id) (hc : c < n0) (hb : b ≤ n0)
    (P : Nat → Hp → Prop) (R : Hp → Prop)
    (hP : ∀ k h, P k h → Row h c (bH A mv sv) ∧ jD h a b A mv sv)
    (hst : ∀ k h h', P k h → (∀ j, j < n0 → h' j = h j) → P k h')
    (hsr : ∀ h h', R h → (∀ j, j < n0 → h' j = h j) → R h')
    (hY : ∀ (k : Nat) (hk : k < A.made.length) (w : a9) (h : Hp) (n : Nat), P k h → n0 ≤ n → bK h n → w = .bool (G1 A.height A.made k) → Wp (jA env (evalW env) Y [ptA (ptV A.made[k]), w]) h n fun v' h' n' => ((yes true v' ∧ P (k + 1) h') ∨ (yes false v' ∧ R h')) ∧ ∀ j, n0 ≤ j → j < n → h' j = h j)
    (hT : ∀ (h : Hp) (n : Nat) (x5 x6 x8 x14 x63 x67 x68 x69 x70 x89 : a9), P A.made.length h → Pm h id (A.made.map ptV) → id < n → bK h n →
      dL env 113 none Q ks (.exit 0) (Y :: .ptr c 0 :: a9.junk :: .map id :: a9.junk :: x5 :: x6 :: a9.junk :: x8 :: a9.junk :: a9.junk :: mv :: .int .i64 (A.made.length : Nat) :: .int .i64 (A.made.length : Nat) :: x14 :: a9.junk :: a9.junk :: a9.junk :: a9.junk :: a9.junk :: a9.junk :: a9.junk :: a9.junk :: a9.junk :: a9.junk :: a9.junk :: a9.junk :: a9.junk :: a9.junk :: a9.junk :: a9.junk :: a9.junk :: a9.junk :: a9.junk :: a9.junk :: a9.junk :: a9.junk :: a9.junk :: a9.junk :: a9.junk :: a9.junk :: a9.junk :: a9.junk :: a9.junk :: a9.junk :: a9.junk :: a9.junk :: a9.junk :: a9.junk :: a9.junk :: a9.junk :: a9.junk :: a9.junk :: a9.junk :: a9.junk :: a9.junk :: a9.junk :: a9.junk :: a9.junk :: a9.junk :: a9.junk :: a9.junk :: a9.junk :: x63 :: a9.junk :: a9.junk :: a9.junk :: x67 :: x68 :: x69 :: x70 :: a9.junk :: a9.junk :: a9.junk :: a9.junk :: a9.junk :: a9.junk :: a9.junk :: a9.junk :: a9.junk :: a9.junk :: a9.junk :: a9.junk :: a9.junk :: a9.junk :: a9.junk :: a9.junk :: a9.junk :: a9.junk :: x89 :: a9.junk :: []) h n)
    (hR : ∀ (h : Hp) (n : Nat) (tm : List a9), R h → dL env 113 none Q ks .ret tm h n) :
    ∀ (m i : Nat) (h : Hp) (n : Nat) (x5 x6 x8 x14 x63 x67 x68 x69 x70 x89 : a9), i + m = A.made.length → P i h → Pm h id ((A.made.take i).map ptV) → id < n → bK h n →
      Run env 113 none Q (.loop zG) ks (Y :: .ptr c 0 :: a9.junk :: .map id :: a9.junk :: x5 :: x6 :: a9.junk :: x8 :: a9.junk :: a9.junk :: mv :: .int .i64 (A.made.length : Nat) :: .int .i64 (i : Nat) :: x14 :: a9.junk :: a9.junk :: a9.junk :: a9.junk :: a9.junk :: a9.junk :: a9.junk :: a9.junk :: a9.junk :: a9.junk :: a9.junk :: a9.junk :: a9.junk :: a9.junk :: a9.junk :: a9.junk :: a9.junk :: a9.junk :: a9.junk :: a9.junk :: a9.junk :: a9.junk :: a9.junk :: a9.junk :: a9.junk :: a9.junk :: a9.junk :: a9.junk :: a9.junk :: a9.junk :: a9.junk :: a9.junk :: a9.junk :: a9.junk :: a9.junk :: a9.junk :: a9.junk :: a9.junk :: a9.junk :: a9.junk :: a9.junk :: a9.junk :: a9.junk :: a9.junk :: a9.junk :: a9.junk :: a9.junk :: a9.junk :: x63 :: a9.junk :: a9.junk :: a9.junk :: x67 :: x68 :: x69 :: x70 :: a9.junk :: a9.junk :: a9.junk :: a9.junk :: a9.junk :: a9.junk :: a9.junk :: a9.junk :: a9.junk :: a9.junk :: a9.junk :: a9.junk :: a9.junk :: a9.junk :: a9.junk :: a9.junk :: a9.junk :: a9.junk :: x89 :: a9.junk :: []) h n := by
  intro m
  induction m with
  | zero =>
    intro i h n x5 x6 x8 x14 x63 x67 x68 x69 x70 x89 hm hp hmp hin hf
    have : i = A.made.length := by omega
    subst this
    rw [bZ]
    have hcc : ¬ (((A.made.length : Nat) : Int) < ((A.made.length : Nat) : Int)) := by omega
    simp only [zG, bO, Try.f113, Option.getD_some, aB, fgr, execOp, opd, aC, put, nth, aA, bor, aJ, aK, intOp, List.getD_cons_zero, hcc, gL, gB]
    rw [List.take_length] at hmp
    exact hT h n _ _ _ _ _ _ _ _ _ _ hp hmp hin hf
  | succ m ih =>
    intro i h n x5 x6 x8 x14 x63 x67 x68 x69 x70 x89 hm hp hmp hin hf
    obtain ⟨hrc, ha⟩ := hP i h hp
    have hil : i < A.made.length := by omega
    have hcc : (((i : Nat) : Int) < ((A.made.length : Nat) : Int)) := by omega
    have w1 : IntKind.i64.wrap (((i : Nat) : Int) + 1) = ((i + 1 : Nat) : Int) := by rw [w64 (by omega) (by have := ha.ml; omega)]; omega
    obtain ⟨sw, va⟩ := ha.m.at_ hil
    have hge : A.made[i]? = some A.made[i] := List.getElem?_eq_getElem hil
    have hmay : G1 A.height A.made i = (mY A.height A.made[i] && decide (jU ((A.made.take (i + 1)).map ptV) (ptV A.made[i]) = 1)) := by unfold G1; rw [hge]
    have htk : (A.made.take (i + 1)).map ptV = (A.made.take i).map ptV ++ [ptV A.made[i]] := by rw [mA hil, List.map_append]; rfl
    have hYi := hY i hil
    rw [hmay] at hYi
    generalize A.made[i] = v at *
    rw [bZ]
    simp only [zG, bO, Try.f113, Option.getD_some, aB, fgr, execOp, opd, aC, put, nth, aA, bor, aJ, aK, intOp, List.getD_cons_zero, hcc, gL, gB]
    rw [aN (ha.m.idx hil)]
    simp only [aB, execOp, opd, aC, put, nth]
    rw [aN (va.all n)]
    simp only [aB, execOp, aC, put]
    rw [cG eX rfl]
    simp only [aB, execOp, opd, aC, put, nth, cel]
    have kd := va.s.kind
    refine dW (v := .agg (aS v sw)) eX rfl (bV va.ok.h va.ok.b) (dV kd.2.1) hf fun H1 r1 p1 f1 => ?_
    replace r1 : Row H1 n (aS v sw) := r1
    have m1 : Pm H1 id ((A.made.take i).map ptV) := hmp.aT (p1 id (by omega))
    have hlen : ((A.made.take i).map ptV).length ≤ 1000000 := by rw [List.length_map, List.length_take]; have := ha.ml; omega
    simp only [aB, fgr, aC, aA]
    refine xI (act := Ins.rW) rhk4 ?_
    unfold Ins.rW
    refine DV (p := ptV v) rfl rfl rfl r1 (uK va.ok.h) va.ok.h m1 (by omega) fun H3 k3 m3 => ?_
    have e3 : ∀ j, j < n0 → H3 j = h j := fun j hj => by rw [k3 j (by omega), p1 j (by omega)]
    have p3 : P i H3 := hst i h H3 hp e3
    have r3 : Row H3 n (aS v sw) := r1.aT (k3 n (by omega))
    have f3 : bK H3 (n + 1) := fun j hj => by rw [k3 j (by omega)]; exact f1 j hj
    have bs3 : Bytes H3 sw v.script := va.s.aT fun j q => e3 j (by have := va.sn j q; omega)
    obtain ⟨hrc3, ha3⟩ := hP i H3 p3
    rw [← htk] at m3
    simp only [aB, tyr, execOp, opd, aC, put, nth, und, sizeOf, aV, aO, fieldAddr, Ins.tC, gL, gI]
    rw [aN (fJ r3 va.ok)]
    simp only [aB, tyr, execOp, opd, aC, put, nth, und, sizeOf, aV, aO, fieldAddr, gL, gI]
    rw [aN (sV hrc3)]
    by_cases c1 : v.made = A.height
    rotate_left
    · have hfit : (mY A.height v && decide (jU ((A.made.take (i + 1)).map ptV) (ptV v) = 1)) = false := by simp [mY, c1]
      simp only [aB, fgr, execOp, opd, ofValue, aC, put, nth, aA, bor, aJ, aK, intOp, aW, branch, c1, gL, gB, gI]
      refine cB ⟨rfl, ?_⟩
      simp only [aF, aH, aB, tyr, execOp, opd, aC, put, nth, und, sizeOf, aV, aO, fieldAddr, Nat.reduceAdd, gL, gI]
      rw [bL (iC r3 va.ok)]
      simp only [aF, cY, cK, cX, jJ, eP, aH, execOp, opd, bC, ofValue, aC, put, nth, aI, aW, branch, Nat.reduceAdd, gL]
      refine dI f3 (hYi (.bool false) H3 (n + 1) p3 (by omega) f3 (by rw [hfit])) fun v4 h4 n4 rr ww hn4 f4 ⟨hh, kk⟩ => ?_
      rcases hh with ⟨e4 | e4, hp4⟩ | ⟨e4 | e4, hr4⟩
      · subst e4
        simp only [bS, aF, aH, aB, fgr, execOp, opd, ofValue, aC, put, nth, aA, bor, aJ, aK, intOp, bR, unOp, Nat.reduceAdd, gB]
        refine ⟨(by (try simp (disch := first | assumption | omega) only [cV, List.all_cons, List.all_nil, gB, gF]); repeat' (first | rfl | exact (Bool.or_eq_true _ _).mpr (.inr rfl) | refine (Bool.and_eq_true _ _).mpr ⟨?_, ?_⟩)), ?_⟩
        simp only [w1]
        exact ih (i + 1) h4 n4 _ _ _ _ _ _ _ _ _ _ (by omega) hp4 (m3.aT (kk id hid (by omega))) (by omega) f4
      · subst e4
        simp only [bS, aF, aH, aB, fgr, execOp, opd, ofValue, aC, put, nth, aA, bor, aJ, aK, intOp, bR, unOp, Nat.reduceAdd, gB]
        refine ⟨(by (try simp (disch := first | assumption | omega) only [cV, List.all_cons, List.all_nil, gB, gF]); repeat' (first | rfl | exact (Bool.or_eq_true _ _).mpr (.inr rfl) | refine (Bool.and_eq_true _ _).mpr ⟨?_, ?_⟩)), ?_⟩
        simp only [w1]
        exact ih (i + 1) h4 n4 _ _ _ _ _ _ _ _ _ _ (by omega) hp4 (m3.aT (kk id hid (by omega))) (by omega) f4
      · subst e4
        simp only [bS, aF, aH, aB, fgr, execOp, opd, aC, put, nth, aA, unOp, Nat.reduceAdd, gB]
        exact ⟨(by (try simp (disch := first | assumption | omega) only [cV, List.all_cons, List.all_nil, gB, gF]); repeat' (first | rfl | exact (Bool.or_eq_true _ _).mpr (.inr rfl) | refine (Bool.and_eq_true _ _).mpr ⟨?_, ?_⟩)), hR h4 n4 _ hr4⟩
      · subst e4
        simp only [bS, aF, aH, aB, fgr, execOp, opd, aC, put, nth, aA, unOp, Nat.reduceAdd, gB]
        exact ⟨(by (try simp (disch := first | assumption | omega) only [cV, List.all_cons, List.all_nil, gB, gF]); repeat' (first | rfl | exact (Bool.or_eq_true _ _).mpr (.inr rfl) | refine (Bool.and_eq_true _ _).mpr ⟨?_, ?_⟩)), hR h4 n4 _ hr4⟩
    simp only [aB, tyr, execOp, opd, aC, put, nth, und, sizeOf, bor, aJ, aK, intOp, aV, aO, fieldAddr, beq_self_eq_true, c1, gL, gB, gI]
    rw [aN (dU r3 va.ok)]
    by_cases c2 : v.spent = 0
    rotate_left
    · have hfit : (mY A.height v && decide (jU ((A.made.take (i + 1)).map ptV) (ptV v) = 1)) = false := by simp [mY, c2]
      simp only [aB, fgr, execOp, opd, ofValue, aC, put, nth, aA, bor, aJ, aK, intOp, aW, branch, c2, gL, gB, gI]
      refine cB ⟨rfl, ?_⟩
      simp only [aF, aH, aB, tyr, execOp, opd, aC, put, nth, und, sizeOf, aV, aO, fieldAddr, Nat.reduceAdd, gL, gI]
      rw [bL (iC r3 va.ok)]
      simp only [aF, cY, cK, cX, jJ, eP, aH, execOp, opd, bC, ofValue, aC, put, nth, aI, aW, branch, Nat.reduceAdd, gL]
      refine dI f3 (hYi (.bool false) H3 (n + 1) p3 (by omega) f3 (by rw [hfit])) fun v4 h4 n4 rr ww hn4 f4 ⟨hh, kk⟩ => ?_
      rcases hh with ⟨e4 | e4, hp4⟩ | ⟨e4 | e4, hr4⟩
      · subst e4
        simp only [bS, aF, aH, aB, fgr, execOp, opd, ofValue, aC, put, nth, aA, bor, aJ, aK, intOp, bR, unOp, Nat.reduceAdd, gB]
        refine ⟨(by (try simp (disch := first | assumption | omega) only [cV, List.all_cons, List.all_nil, gB, gF]); repeat' (first | rfl | exact (Bool.or_eq_true _ _).mpr (.inr rfl) | refine (Bool.and_eq_true _ _).mpr ⟨?_, ?_⟩)), ?_⟩
        simp only [w1]
        exact ih (i + 1) h4 n4 _ _ _ _ _ _ _ _ _ _ (by omega) hp4 (m3.aT (kk id hid (by omega))) (by omega) f4
      · subst e4
        simp only [bS, aF, aH, aB, fgr, execOp, opd, ofValue, aC, put, nth, aA, bor, aJ, aK, intOp, bR, unOp, Nat.reduceAdd, gB]
        refine ⟨(by (try simp (disch := first | assumption | omega) only [cV, List.all_cons, List.all_nil, gB, gF]); repeat' (first | rfl | exact (Bool.or_eq_true _ _).mpr (.inr rfl) | refine (Bool.and_eq_true _ _).mpr ⟨?_, ?_⟩)), ?_⟩
        simp only [w1]
        exact ih (i + 1) h4 n4 _ _ _ _ _ _ _ _ _ _ (by omega) hp4 (m3.aT (kk id hid (by omega))) (by omega) f4
      · subst e4
        simp only [bS, aF, aH, aB, fgr, execOp, opd, aC, put, nth, aA, unOp, Nat.reduceAdd, gB]
        exact ⟨(by (try simp (disch := first | assumption | omega) only [cV, List.all_cons, List.all_nil, gB, gF]); repeat' (first | rfl | exact (Bool.or_eq_true _ _).mpr (.inr rfl) | refine (Bool.and_eq_true _ _).mpr ⟨?_, ?_⟩)), hR h4 n4 _ hr4⟩
      · subst e4
        simp only [bS, aF, aH, aB, fgr, execOp, opd, aC, put, nth, aA, unOp, Nat.reduceAdd, gB]
        exact ⟨(by (try simp (disch := first | assumption | omega) only [cV, List.all_cons, List.all_nil, gB, gF]); repeat' (first | rfl | exact (Bool.or_eq_true _ _).mpr (.inr rfl) | refine (Bool.and_eq_true _ _).mpr ⟨?_, ?_⟩)), hR h4 n4 _ hr4⟩
    simp only [aB, tyr, execOp, opd, ofValue, aC, put, nth, und, sizeOf, bor, aJ, aK, intOp, aW, branch, aV, aO, fieldAddr, beq_self_eq_true, c2, gL, gB, gI]
    rw [aN (CE r3 va.ok)]
    have heq := P6 v.by_ z32 va.ok.b rfl
    by_cases c3 : v.by_ = z32
    rotate_left
    · have hfit : (mY A.height v && decide (jU ((A.made.take (i + 1)).map ptV) (ptV v) = 1)) = false := by simp [mY, c3]
      rw [decide_eq_false c3] at heq
      simp only [aB, fgr, execOp, opd, ofValue, dA, aC, put, nth, aA, aW, branch, b25, heq, gL]
      refine cB ⟨rfl, ?_⟩
      simp only [aF, aH, aB, tyr, execOp, opd, aC, put, nth, und, sizeOf, aV, aO, fieldAddr, Nat.reduceAdd, gL, gI]
      rw [bL (iC r3 va.ok)]
      simp only [aF, cY, cK, cX, jJ, eP, aH, execOp, opd, bC, ofValue, aC, put, nth, aI, aW, branch, Nat.reduceAdd, gL]
      refine dI f3 (hYi (.bool false) H3 (n + 1) p3 (by omega) f3 (by rw [hfit])) fun v4 h4 n4 rr ww hn4 f4 ⟨hh, kk⟩ => ?_
      rcases hh with ⟨e4 | e4, hp4⟩ | ⟨e4 | e4, hr4⟩
      · subst e4
        simp only [bS, aF, aH, aB, fgr, execOp, opd, ofValue, aC, put, nth, aA, bor, aJ, aK, intOp, bR, unOp, Nat.reduceAdd, gB]
        refine ⟨(by (try simp (disch := first | assumption | omega) only [cV, List.all_cons, List.all_nil, gB, gF]); repeat' (first | rfl | exact (Bool.or_eq_true _ _).mpr (.inr rfl) | refine (Bool.and_eq_true _ _).mpr ⟨?_, ?_⟩)), ?_⟩
        simp only [w1]
        exact ih (i + 1) h4 n4 _ _ _ _ _ _ _ _ _ _ (by omega) hp4 (m3.aT (kk id hid (by omega))) (by omega) f4
      · subst e4
        simp only [bS, aF, aH, aB, fgr, execOp, opd, ofValue, aC, put, nth, aA, bor, aJ, aK, intOp, bR, unOp, Nat.reduceAdd, gB]
        refine ⟨(by (try simp (disch := first | assumption | omega) only [cV, List.all_cons, List.all_nil, gB, gF]); repeat' (first | rfl | exact (Bool.or_eq_true _ _).mpr (.inr rfl) | refine (Bool.and_eq_true _ _).mpr ⟨?_, ?_⟩)), ?_⟩
        simp only [w1]
        exact ih (i + 1) h4 n4 _ _ _ _ _ _ _ _ _ _ (by omega) hp4 (m3.aT (kk id hid (by omega))) (by omega) f4
      · subst e4
        simp only [bS, aF, aH, aB, fgr, execOp, opd, aC, put, nth, aA, unOp, Nat.reduceAdd, gB]
        exact ⟨(by (try simp (disch := first | assumption | omega) only [cV, List.all_cons, List.all_nil, gB, gF]); repeat' (first | rfl | exact (Bool.or_eq_true _ _).mpr (.inr rfl) | refine (Bool.and_eq_true _ _).mpr ⟨?_, ?_⟩)), hR h4 n4 _ hr4⟩
      · subst e4
        simp only [bS, aF, aH, aB, fgr, execOp, opd, aC, put, nth, aA, unOp, Nat.reduceAdd, gB]
        exact ⟨(by (try simp (disch := first | assumption | omega) only [cV, List.all_cons, List.all_nil, gB, gF]); repeat' (first | rfl | exact (Bool.or_eq_true _ _).mpr (.inr rfl) | refine (Bool.and_eq_true _ _).mpr ⟨?_, ?_⟩)), hR h4 n4 _ hr4⟩
    rw [decide_eq_true c3] at heq
    simp only [aB, tyr, execOp, opd, ofValue, dA, aC, put, nth, und, sizeOf, aW, branch, aV, aO, fieldAddr, b25, heq, gL, gI]
    rw [aN (kL r3 va.ok)]
    simp only [aB, execOp, opd, bC, aC, put, nth, aI, gL]
    refine dZ (f100 v.value H3 (n + 1)) ?_
    cases c4 : kZ v.value with
    | false =>
      have hfit : (mY A.height v && decide (jU ((A.made.take (i + 1)).map ptV) (ptV v) = 1)) = false := by simp [mY, c4]
      simp only [aB, fgr, execOp, opd, ofValue, aC, put, nth, aA, aW, branch, gL]
      refine cB ⟨rfl, ?_⟩
      simp only [aF, aH, aB, tyr, execOp, opd, aC, put, nth, und, sizeOf, aV, aO, fieldAddr, Nat.reduceAdd, gL, gI]
      rw [bL (iC r3 va.ok)]
      simp only [aF, cY, cK, cX, jJ, eP, aH, execOp, opd, bC, ofValue, aC, put, nth, aI, aW, branch, Nat.reduceAdd, gL]
      refine dI f3 (hYi (.bool false) H3 (n + 1) p3 (by omega) f3 (by rw [hfit])) fun v4 h4 n4 rr ww hn4 f4 ⟨hh, kk⟩ => ?_
      rcases hh with ⟨e4 | e4, hp4⟩ | ⟨e4 | e4, hr4⟩
      · subst e4
        simp only [bS, aF, aH, aB, fgr, execOp, opd, ofValue, aC, put, nth, aA, bor, aJ, aK, intOp, bR, unOp, Nat.reduceAdd, gB]
        refine ⟨(by (try simp (disch := first | assumption | omega) only [cV, List.all_cons, List.all_nil, gB, gF]); repeat' (first | rfl | exact (Bool.or_eq_true _ _).mpr (.inr rfl) | refine (Bool.and_eq_true _ _).mpr ⟨?_, ?_⟩)), ?_⟩
        simp only [w1]
        exact ih (i + 1) h4 n4 _ _ _ _ _ _ _ _ _ _ (by omega) hp4 (m3.aT (kk id hid (by omega))) (by omega) f4
      · subst e4
        simp only [bS, aF, aH, aB, fgr, execOp, opd, ofValue, aC, put, nth, aA, bor, aJ, aK, intOp, bR, unOp, Nat.reduceAdd, gB]
        refine ⟨(by (try simp (disch := first | assumption | omega) only [cV, List.all_cons, List.all_nil, gB, gF]); repeat' (first | rfl | exact (Bool.or_eq_true _ _).mpr (.inr rfl) | refine (Bool.and_eq_true _ _).mpr ⟨?_, ?_⟩)), ?_⟩
        simp only [w1]
        exact ih (i + 1) h4 n4 _ _ _ _ _ _ _ _ _ _ (by omega) hp4 (m3.aT (kk id hid (by omega))) (by omega) f4
      · subst e4
        simp only [bS, aF, aH, aB, fgr, execOp, opd, aC, put, nth, aA, unOp, Nat.reduceAdd, gB]
        exact ⟨(by (try simp (disch := first | assumption | omega) only [cV, List.all_cons, List.all_nil, gB, gF]); repeat' (first | rfl | exact (Bool.or_eq_true _ _).mpr (.inr rfl) | refine (Bool.and_eq_true _ _).mpr ⟨?_, ?_⟩)), hR h4 n4 _ hr4⟩
      · subst e4
        simp only [bS, aF, aH, aB, fgr, execOp, opd, aC, put, nth, aA, unOp, Nat.reduceAdd, gB]
        exact ⟨(by (try simp (disch := first | assumption | omega) only [cV, List.all_cons, List.all_nil, gB, gF]); repeat' (first | rfl | exact (Bool.or_eq_true _ _).mpr (.inr rfl) | refine (Bool.and_eq_true _ _).mpr ⟨?_, ?_⟩)), hR h4 n4 _ hr4⟩
    | true =>
    simp only [aB, tyr, execOp, opd, ofValue, aC, put, nth, und, sizeOf, aW, branch, aV, aO, fieldAddr, gL, gI]
    rw [aN (iB r3 va.ok)]
    simp only [aB, fgr, execOp, opd, bC, ofValue, aC, put, nth, aA, aI, builtin, dB, bor, aJ, aK, intOp, aW, branch, bs3.cI t29, gL, gB]
    by_cases c5 : (v.script.length : Nat) ≤ 2000
    rotate_left
    · have hfit : (mY A.height v && decide (jU ((A.made.take (i + 1)).map ptV) (ptV v) = 1)) = false := by simp [mY]; omega
      have c5' : ¬ (((v.script.length : Nat) : Int) ≤ 2000) := by omega
      simp only [decide_false, c5']
      refine cB ⟨rfl, ?_⟩
      simp only [aF, aH, aB, tyr, execOp, opd, aC, put, nth, und, sizeOf, aV, aO, fieldAddr, Nat.reduceAdd, gL, gI]
      rw [bL (iC r3 va.ok)]
      simp only [aF, cY, cK, cX, jJ, eP, aH, execOp, opd, bC, ofValue, aC, put, nth, aI, aW, branch, Nat.reduceAdd, gL]
      refine dI f3 (hYi (.bool false) H3 (n + 1) p3 (by omega) f3 (by rw [hfit])) fun v4 h4 n4 rr ww hn4 f4 ⟨hh, kk⟩ => ?_
      rcases hh with ⟨e4 | e4, hp4⟩ | ⟨e4 | e4, hr4⟩
      · subst e4
        simp only [bS, aF, aH, aB, fgr, execOp, opd, ofValue, aC, put, nth, aA, bor, aJ, aK, intOp, bR, unOp, Nat.reduceAdd, gB]
        refine ⟨(by (try simp (disch := first | assumption | omega) only [cV, List.all_cons, List.all_nil, gB, gF]); repeat' (first | rfl | exact (Bool.or_eq_true _ _).mpr (.inr rfl) | refine (Bool.and_eq_true _ _).mpr ⟨?_, ?_⟩)), ?_⟩
        simp only [w1]
        exact ih (i + 1) h4 n4 _ _ _ _ _ _ _ _ _ _ (by omega) hp4 (m3.aT (kk id hid (by omega))) (by omega) f4
      · subst e4
        simp only [bS, aF, aH, aB, fgr, execOp, opd, ofValue, aC, put, nth, aA, bor, aJ, aK, intOp, bR, unOp, Nat.reduceAdd, gB]
        refine ⟨(by (try simp (disch := first | assumption | omega) only [cV, List.all_cons, List.all_nil, gB, gF]); repeat' (first | rfl | exact (Bool.or_eq_true _ _).mpr (.inr rfl) | refine (Bool.and_eq_true _ _).mpr ⟨?_, ?_⟩)), ?_⟩
        simp only [w1]
        exact ih (i + 1) h4 n4 _ _ _ _ _ _ _ _ _ _ (by omega) hp4 (m3.aT (kk id hid (by omega))) (by omega) f4
      · subst e4
        simp only [bS, aF, aH, aB, fgr, execOp, opd, aC, put, nth, aA, unOp, Nat.reduceAdd, gB]
        exact ⟨(by (try simp (disch := first | assumption | omega) only [cV, List.all_cons, List.all_nil, gB, gF]); repeat' (first | rfl | exact (Bool.or_eq_true _ _).mpr (.inr rfl) | refine (Bool.and_eq_true _ _).mpr ⟨?_, ?_⟩)), hR h4 n4 _ hr4⟩
      · subst e4
        simp only [bS, aF, aH, aB, fgr, execOp, opd, aC, put, nth, aA, unOp, Nat.reduceAdd, gB]
        exact ⟨(by (try simp (disch := first | assumption | omega) only [cV, List.all_cons, List.all_nil, gB, gF]); repeat' (first | rfl | exact (Bool.or_eq_true _ _).mpr (.inr rfl) | refine (Bool.and_eq_true _ _).mpr ⟨?_, ?_⟩)), hR h4 n4 _ hr4⟩
    have c5' : (((v.script.length : Nat) : Int) ≤ 2000) := by omega
    have hfit : mY A.height v = true := by simp [mY, c1, c2, c3, c4, c5]
    simp only [decide_true, c5']
    refine cB ⟨rfl, ?_⟩
    simp only [aF, aH, aB, tyr, execOp, opd, aC, put, nth, und, sizeOf, aV, aO, fieldAddr, Nat.reduceAdd, gL, gI]
    rw [bL (iC r3 va.ok)]
    simp only [aF, cY, cK, cX, lH, aH, aB, tyr, execOp, opd, aC, put, nth, und, sizeOf, aV, aO, fieldAddr, Nat.reduceAdd, gL, gI]
    rw [bL (iC r3 va.ok)]
    have hlk : Rd (iS env 161 (.map id) (.agg (aX v.hash v.pn)) false) H3 (n + 1) [id] _ := m3.lookup (p := ptV v) va.ok.h
    simp only [cY, cK, cX, lH, execOp, opd, aC, put, nth, Nat.reduceAdd, gL]
    rw [bL hlk]
    have ecnt : decide (((jU ((A.made.take (i + 1)).map ptV) (ptV v) : Nat) : Int) = 1) = decide (jU ((A.made.take (i + 1)).map ptV) (ptV v) = 1) := by
      rw [decide_eq_decide]; omega
    simp only [aF, cY, cK, cX, lH, eP, aH, execOp, opd, bC, ofValue, aC, put, nth, aI, bor, aJ, aK, intOp, aW, branch, Nat.reduceAdd, ecnt, gL, gB, gI]
    refine dI f3 (hYi (.bool (decide (jU ((A.made.take (i + 1)).map ptV) (ptV v) = 1))) H3 (n + 1) p3 (by omega) f3 (by rw [hfit, Bool.true_and])) fun v4 h4 n4 rr ww hn4 f4 ⟨hh, kk⟩ => ?_
    rcases hh with ⟨e4 | e4, hp4⟩ | ⟨e4 | e4, hr4⟩
    · subst e4
      simp only [bS, aF, aH, aB, fgr, execOp, opd, ofValue, aC, put, nth, aA, bor, aJ, aK, intOp, bR, unOp, Nat.reduceAdd, gB]
      refine ⟨(by (try simp (disch := first | assumption | omega) only [cV, List.all_cons, List.all_nil, gB, gF]); repeat' (first | rfl | exact (Bool.or_eq_true _ _).mpr (.inr rfl) | refine (Bool.and_eq_true _ _).mpr ⟨?_, ?_⟩)), ?_⟩
      simp only [w1]
      exact ih (i + 1) h4 n4 _ _ _ _ _ _ _ _ _ _ (by omega) hp4 (m3.aT (kk id hid (by omega))) (by omega) f4
    · subst e4
      simp only [bS, aF, aH, aB, fgr, execOp, opd, ofValue, aC, put, nth, aA, bor, aJ, aK, intOp, bR, unOp, Nat.reduceAdd, gB]
      refine ⟨(by (try simp (disch := first | assumption | omega) only [cV, List.all_cons, List.all_nil, gB, gF]); repeat' (first | rfl | exact (Bool.or_eq_true _ _).mpr (.inr rfl) | refine (Bool.and_eq_true _ _).mpr ⟨?_, ?_⟩)), ?_⟩
      simp only [w1]
      exact ih (i + 1) h4 n4 _ _ _ _ _ _ _ _ _ _ (by omega) hp4 (m3.aT (kk id hid (by omega))) (by omega) f4
    · subst e4
      simp only [bS, aF, aH, aB, fgr, execOp, opd, aC, put, nth, aA, unOp, Nat.reduceAdd, gB]
      exact ⟨(by (try simp (disch := first | assumption | omega) only [cV, List.all_cons, List.all_nil, gB, gF]); repeat' (first | rfl | exact (Bool.or_eq_true _ _).mpr (.inr rfl) | refine (Bool.and_eq_true _ _).mpr ⟨?_, ?_⟩)), hR h4 n4 _ hr4⟩
    · subst e4
      simp only [bS, aF, aH, aB, fgr, execOp, opd, aC, put, nth, aA, unOp, Nat.reduceAdd, gB]
      exact ⟨(by (try simp (disch := first | assumption | omega) only [cV, List.all_cons, List.all_nil, gB, gF]); repeat' (first | rfl | exact (Bool.or_eq_true _ _).mpr (.inr rfl) | refine (Bool.and_eq_true _ _).mpr ⟨?_, ?_⟩)), hR h4 n4 _ hr4⟩
theorem G2 (Q : eB) (ks : List Kf) (Y mv sv : a9) (c id a b n0 : Nat) (A : App) (hid : n0 ≤ id) (hc : c < n0) (hb : b ≤ n0)
    (P : Nat → Hp → Prop) (R : Hp → Prop)
    (hP : ∀ k h, P k h → Row h c (bH A mv sv) ∧ jD h a b A mv sv)
    (hst : ∀ k h h', P k h → (∀ j, j < n0 → h' j = h j) → P k h')
    (hY : ∀ (k : Nat) (hk : k < A.spends.length) (w : a9) (h : Hp) (n : Nat), P (A.made.length + k) h → n0 ≤ n → bK h n → w = .bool (J2 A.spends k) → Wp (jA env (evalW env) Y [ptA (ptS A.spends[k]), w]) h n fun v' h' n' => ((yes true v' ∧ P (A.made.length + k + 1) h') ∨ (yes false v' ∧ R h')) ∧ ∀ j, n0 ≤ j → j < n → h' j = h j)
    (hT : ∀ (h : Hp) (n : Nat) (tm : List a9), P (A.made.length + A.spends.length) h → dL env 113 none Q ks (.exit 2) tm h n)
    (hR : ∀ (h : Hp) (n : Nat) (tm : List a9), R h → dL env 113 none Q ks .ret tm h n) :
    ∀ (m i : Nat) (h : Hp) (n : Nat) (x1 x5 x6 x8 x11 x12 x13 x14 x63 x70 x89 : a9), i + m = A.spends.length → P (A.made.length + i) h → Pm h id ((A.spends.take i).map ptS) → id < n → bK h n →
      Run env 113 none Q (.loop zF) ks (Y :: x1 :: a9.junk :: .map id :: a9.junk :: x5 :: x6 :: a9.junk :: x8 :: a9.junk :: a9.junk :: x11 :: x12 :: x13 :: x14 :: a9.junk :: a9.junk :: a9.junk :: a9.junk :: a9.junk :: a9.junk :: a9.junk :: a9.junk :: a9.junk :: a9.junk :: a9.junk :: a9.junk :: a9.junk :: a9.junk :: a9.junk :: a9.junk :: a9.junk :: a9.junk :: a9.junk :: a9.junk :: a9.junk :: a9.junk :: a9.junk :: a9.junk :: a9.junk :: a9.junk :: a9.junk :: a9.junk :: a9.junk :: a9.junk :: a9.junk :: a9.junk :: a9.junk :: a9.junk :: a9.junk :: a9.junk :: a9.junk :: a9.junk :: a9.junk :: a9.junk :: a9.junk :: a9.junk :: a9.junk :: a9.junk :: a9.junk :: a9.junk :: a9.junk :: a9.junk :: x63 :: a9.junk :: a9.junk :: a9.junk :: sv :: .int .i64 (A.spends.length : Nat) :: .int .i64 (i : Nat) :: x70 :: a9.junk :: a9.junk :: a9.junk :: a9.junk :: a9.junk :: a9.junk :: a9.junk :: a9.junk :: a9.junk :: a9.junk :: a9.junk :: a9.junk :: a9.junk :: a9.junk :: a9.junk :: a9.junk :: a9.junk :: a9.junk :: x89 :: a9.junk :: []) h n := by
  intro m
  induction m with
  | zero =>
    intro i h n x1 x5 x6 x8 x11 x12 x13 x14 x63 x70 x89 hm hp hmp hin hf
    have : i = A.spends.length := by omega
    subst this
    rw [bZ]
    have hcc : ¬ (((A.spends.length : Nat) : Int) < ((A.spends.length : Nat) : Int)) := by omega
    simp only [zF, bO, Try.f113, Option.getD_some, aB, fgr, execOp, opd, aC, put, nth, aA, bor, aJ, aK, intOp, List.getD_cons_zero, List.getD_cons_succ, hcc, gL, gB]
    exact hT h n _ hp
  | succ m ih =>
    intro i h n x1 x5 x6 x8 x11 x12 x13 x14 x63 x70 x89 hm hp hmp hin hf
    obtain ⟨hrc, ha⟩ := hP _ h hp
    have hil : i < A.spends.length := by omega
    have hcc : (((i : Nat) : Int) < ((A.spends.length : Nat) : Int)) := by omega
    have w1 : IntKind.i64.wrap (((i : Nat) : Int) + 1) = ((i + 1 : Nat) : Int) := by rw [w64 (by omega) (by have := ha.sl; omega)]; omega
    obtain ⟨ok, hld⟩ := ha.s.all (n := n) hil
    have hge : A.spends[i]? = some A.spends[i] := List.getElem?_eq_getElem hil
    have hmay : J2 A.spends i = decide (jU ((A.spends.take (i + 1)).map ptS) (ptS A.spends[i]) = 1) := by unfold J2; rw [hge]
    have htk : (A.spends.take (i + 1)).map ptS = (A.spends.take i).map ptS ++ [ptS A.spends[i]] := by rw [mA hil, List.map_append]; rfl
    have hYi := hY i hil
    rw [hmay] at hYi
    generalize A.spends[i] = v at *
    rw [bZ]
    simp only [zF, bO, Try.f113, Option.getD_some, aB, fgr, execOp, opd, aC, put, nth, aA, bor, aJ, aK, intOp, List.getD_cons_zero, List.getD_cons_succ, hcc, gL, gB]
    rw [aN (ha.s.idx hil)]
    simp only [aB, execOp, opd, aC, put, nth]
    rw [aN hld]
    simp only [aB, execOp, aC, put]
    rw [cG wS rfl]
    simp only [aB, execOp, opd, aC, put, nth, cel]
    refine dW (v := .agg (eO v)) wS rfl (kU ok) (pX v) hf fun H1 r1 p1 f1 => ?_
    replace r1 : Row H1 n (eO v) := r1
    have m1 : Pm H1 id ((A.spends.take i).map ptS) := hmp.aT (p1 id (by omega))
    have hlen : ((A.spends.take i).map ptS).length ≤ 1000000 := by rw [List.length_map, List.length_take]; have := ha.sl; omega
    simp only [aB, fgr, aC, aA]
    refine xI (act := Ins.pG) WQ ?_
    unfold Ins.pG
    refine DV (p := ptS v) rfl rfl rfl r1 (HW ok) ok.h m1 (by omega) fun H3 k3 m3 => ?_
    have e3 : ∀ j, j < n0 → H3 j = h j := fun j hj => by rw [k3 j (by omega), p1 j (by omega)]
    have p3 : P (A.made.length + i) H3 := hst _ h H3 hp e3
    have r3 : Row H3 n (eO v) := r1.aT (k3 n (by omega))
    have f3 : bK H3 (n + 1) := fun j hj => by rw [k3 j (by omega)]; exact f1 j hj
    rw [← htk] at m3
    simp only [aB, put, Ins.tC]
    refine cB ⟨rfl, ?_⟩
    simp only [aF, aH, aB, tyr, execOp, opd, aC, put, nth, und, sizeOf, aV, aO, fieldAddr, Nat.reduceAdd, gL, gI]
    rw [bL (tX r3 ok)]
    simp only [aF, aH, aB, tyr, execOp, opd, aC, put, nth, und, sizeOf, aV, aO, fieldAddr, Nat.reduceAdd, gL, gI]
    rw [bL (tX r3 ok)]
    have hlk : Rd (iS env 161 (.map id) (.agg (aX v.hash v.pn)) false) H3 (n + 1) [id] _ := m3.lookup (p := ptS v) ok.h
    simp only [aF, execOp, opd, aC, put, nth, Nat.reduceAdd]
    rw [bL hlk]
    have ecnt : decide (((jU ((A.spends.take (i + 1)).map ptS) (ptS v) : Nat) : Int) = 1) = decide (jU ((A.spends.take (i + 1)).map ptS) (ptS v) = 1) := by
      rw [decide_eq_decide]; omega
    simp only [aF, aH, execOp, opd, bC, ofValue, aC, put, nth, aI, bor, aJ, aK, intOp, Nat.reduceAdd, ecnt, gB, gI]
    refine dI f3 (hYi (.bool (decide (jU ((A.spends.take (i + 1)).map ptS) (ptS v) = 1))) H3 (n + 1) p3 (by omega) f3 rfl) fun v4 h4 n4 rr ww hn4 f4 ⟨hh, kk⟩ => ?_
    rcases hh with ⟨e4 | e4, hp4⟩ | ⟨e4 | e4, hr4⟩
    · subst e4
      simp only [bS, aF, aH, aB, fgr, execOp, opd, ofValue, aC, put, nth, aA, bor, aJ, aK, intOp, bR, unOp, Nat.reduceAdd, gB]
      refine ⟨(by (try simp (disch := first | assumption | omega) only [cV, List.all_cons, List.all_nil, gB, gF]); repeat' (first | rfl | exact (Bool.or_eq_true _ _).mpr (.inr rfl) | refine (Bool.and_eq_true _ _).mpr ⟨?_, ?_⟩)), ?_⟩
      simp only [w1]
      exact ih (i + 1) h4 n4 _ _ _ _ _ _ _ _ _ _ _ (by omega) hp4 (m3.aT (kk id hid (by omega))) (by omega) f4
    · subst e4
      simp only [bS, aF, aH, aB, fgr, execOp, opd, ofValue, aC, put, nth, aA, bor, aJ, aK, intOp, bR, unOp, Nat.reduceAdd, gB]
      refine ⟨(by (try simp (disch := first | assumption | omega) only [cV, List.all_cons, List.all_nil, gB, gF]); repeat' (first | rfl | exact (Bool.or_eq_true _ _).mpr (.inr rfl) | refine (Bool.and_eq_true _ _).mpr ⟨?_, ?_⟩)), ?_⟩
      simp only [w1]
      exact ih (i + 1) h4 n4 _ _ _ _ _ _ _ _ _ _ _ (by omega) hp4 (m3.aT (kk id hid (by omega))) (by omega) f4
    · subst e4
      simp only [bS, aF, aH, aB, fgr, execOp, opd, aC, put, nth, aA, unOp, Nat.reduceAdd, gB]
      exact ⟨(by (try simp (disch := first | assumption | omega) only [cV, List.all_cons, List.all_nil, gB, gF]); repeat' (first | rfl | exact (Bool.or_eq_true _ _).mpr (.inr rfl) | refine (Bool.and_eq_true _ _).mpr ⟨?_, ?_⟩)), hR h4 n4 _ hr4⟩
    · subst e4
      simp only [bS, aF, aH, aB, fgr, execOp, opd, aC, put, nth, aA, unOp, Nat.reduceAdd, gB]
      exact ⟨(by (try simp (disch := first | assumption | omega) only [cV, List.all_cons, List.all_nil, gB, gF]); repeat' (first | rfl | exact (Bool.or_eq_true _ _).mpr (.inr rfl) | refine (Bool.and_eq_true _ _).mpr ⟨?_, ?_⟩)), hR h4 n4 _ hr4⟩
theorem f113 (Y mv sv : a9) (c a b : Nat) (A : App) (h : Hp) (n : Nat) (hc : c < n) (hb : b ≤ n) (hf : bK h n)
    (P : Nat → Hp → Prop) (R : Hp → Prop) (h0 : P 0 h)
    (hP : ∀ k h, P k h → Row h c (bH A mv sv) ∧ jD h a b A mv sv)
    (hst : ∀ k h h', P k h → (∀ j, j < n → h' j = h j) → P k h')
    (hsr : ∀ h h', R h → (∀ j, j < n → h' j = h j) → R h')
    (hY1 : ∀ (k : Nat) (hk : k < A.made.length) (w : a9) (h' : Hp) (n' : Nat), P k h' → n ≤ n' → bK h' n' → w = .bool (G1 A.height A.made k) → Wp (jA env (evalW env) Y [ptA (ptV A.made[k]), w]) h' n' fun v1 h1 n1 => ((yes true v1 ∧ P (k + 1) h1) ∨ (yes false v1 ∧ R h1)) ∧ ∀ j, n ≤ j → j < n' → h1 j = h' j)
    (hY2 : ∀ (k : Nat) (hk : k < A.spends.length) (w : a9) (h' : Hp) (n' : Nat), P (A.made.length + k) h' → n ≤ n' → bK h' n' → w = .bool (J2 A.spends k) → Wp (jA env (evalW env) Y [ptA (ptS A.spends[k]), w]) h' n' fun v1 h1 n1 => ((yes true v1 ∧ P (A.made.length + k + 1) h1) ∨ (yes false v1 ∧ R h1)) ∧ ∀ j, n ≤ j → j < n' → h1 j = h' j) :
    Wp (aZ env (evalW env) 113 [Y, .ptr c 0]) h n fun v' h' n' => v' = .tup [] ∧ (P (A.made.length + A.spends.length) h' ∨ R h') := by
  obtain ⟨hrc, ha⟩ := hP 0 h h0
  refine bI Z1 XZ ?_
  simp only [JZ, Try.f113, Option.getD_some, List.replicate, aB, tyr, fgr, execOp, opd, opt, aC, put, nth, aA, und, sizeOf, aV, ended, aP, aQ, aO, fieldAddr, Nat.reduceAdd, Nat.reduceSub, qY, opt, qU, gL, gB, gI]
  obtain ⟨H1, hH1⟩ : ∃ H1, H1 = upd h n (some (Blk.map [] 0)) := ⟨_, rfl⟩
  rw [← hH1]
  have o1 : ∀ j, j < n → H1 j = h j := fun j hj => by rw [hH1, aR _ _ (by omega)]
  have m1 : Pm H1 n [] := Pm.new (by rw [hH1, aU])
  have f1 : bK H1 (n + 1) := by rw [hH1]; exact hf.new
  clear hH1
  have p1 := hst 0 h H1 h0 o1
  obtain ⟨hrc1, ha1⟩ := hP 0 H1 p1
  rw [aN (m8 hrc1 ha1.b)]
  simp only [aB, fgr, execOp, opd, bC, ofValue, aC, put, nth, aA, aI, builtin, dB, ha1.m.len]
  refine G3 _ _ Y mv sv c n a b n A (Nat.le_refl _) hc hb P R hP hst hsr hY1 ?_ ?_ A.made.length 0 H1 (n + 1) _ _ _ _ _ _ _ _ _ _ (by omega) p1 m1 (by omega) f1
  · intro h2 n2 x5 x6 x8 x14 x63 x67 x68 x69 x70 x89 p2 m2 hn2 f2
    simp only [aB, execOp, opd, bC, aC, put, nth, aI, builtin, dB]
    obtain ⟨H3, w3, k3, m3⟩ := m2.clear (n := n2)
    rw [eC w3]
    have p3 := hst _ h2 H3 p2 fun j hj => k3 j (by omega)
    have f3 : bK H3 n2 := fun j hj => by rw [k3 j (by omega)]; exact f2 j hj
    obtain ⟨hrc3, ha3⟩ := hP _ H3 p3
    simp only [aB, tyr, fgr, execOp, opd, aC, put, nth, aA, und, sizeOf, aV, aO, fieldAddr, gL, gI]
    rw [aN (sU hrc3 ha3.b)]
    simp only [aB, fgr, execOp, opd, bC, ofValue, aC, put, nth, aA, aI, builtin, dB, ha3.s.len]
    refine G2 _ _ Y mv sv c n a b n A (Nat.le_refl _) hc hb P R hP hst hY2 ?_ ?_ A.spends.length 0 H3 n2 _ _ _ _ _ _ _ _ _ _ _ (by omega) p3 m3 hn2 f3
    · intro h4 n4 tm p4
      simp only [aB, true_and]
      exact .inl p4
    · intro h4 n4 tm r4
      simp only [aB, true_and]
      exact .inr r4
  · intro h4 n4 tm r4
    simp only [aB, true_and]
    exact .inr r4
def bs (b : Bool) (v : a9) : a9 := match b with
  | true => v
  | false => undef
section
variable {E : Env} {fn : FuncId} {rnd : Option Nat} {Q : eB} {ks : List Kf} {tm : List a9} {h : Hp} {n : Nat} {ops rest : List Oper} {d : Option Tmp}
theorem iU {b : Bool} {op : Op} {v : a9} (hr : b = true → Wp (execOp E (evalW E) tm op) h n fun v' h' n' => v' = v ∧ h' = h ∧ n' = n) (hq : Ops E fn rnd Q ks ops rest (aC tm d (bs b v)) h n) : OpG E fn rnd Q ks ops rest d tm op true (.blit b) h n := by
  cases b with
  | true => rw [IS]; exact dZ (hr rfl) hq
  | false => rw [IT]; exact hq
theorem mF {b m : Bool} : OpV E fn rnd Q ks ops rest d tm (aW (.bool b) (bs b (.bool m)) (.bool false)) h n ↔ Ops E fn rnd Q ks ops rest (aC tm d (.bool (b && m))) h n := by
  cases b <;> simp only [bs, aW, branch, z4, iO, Bool.true_and, Bool.false_and]
end
theorem jN {A : App} {mv sv : a9} (h1 : bJ mv = true) (h2 : bJ sv = true) : (bH A mv sv).all bJ = true := by
  unfold bH
  rw [List.all_cons, List.all_append]
  simp only [List.all_cons, List.all_nil, h1, h2, Bool.and_true, Bool.true_and]
  rw [List.all_map]
  simp [u8, bJ]
theorem f101 (A : App) (mv sv : a9) (h : Hp) (n : Nat) (hf : bK h n) : Wp (aZ env (evalW env) 101 [.agg (bH A mv sv)]) h n fun v' h' n' => v' = .fn (.func 113) [] [.ptr n 0] ∧ Row h' n (bH A mv sv) ∧ (∀ j, j ≠ n → h' j = h j) ∧ n' = n + 1 := by
  refine bI ZA Y8 ?_
  simp only [K9, Try.f101, Option.getD_some, List.replicate, aB, execOp, opd, nth, ended, aP, aQ, Nat.reduceSub, gL, gI]
  refine dC (v := .agg (bH A mv sv)) lO rfl hf fun H1 r1 o1 f1 => ?_
  simp only [aB, fgr, execOp, opd, bC, ofValue, aC, put, nth, aA, gB]
  exact ⟨r1, o1⟩
def vC (A : App) (k : Nat) : Bool := if k < A.made.length then G1 A.height A.made k else J2 A.spends (k - A.made.length)
def JT (A : App) : Bool := uD A.height && kZ A.burnt && kZ A.left && decide (A.made.length ≤ 5000) && decide (A.spends.length ≤ 5000)
def iM (A : App) (k : Nat) : Bool := JT A && (List.range k).all (vC A)
def lJ (A : App) : Bool := iM A (A.made.length + A.spends.length)
theorem NS (A : App) : iM A 0 = JT A := by simp [iM]
theorem EL (A : App) (k : Nat) : iM A (k + 1) = (iM A k && vC A k) := by
  unfold iM
  rw [List.range_succ, List.all_append]
  simp [Bool.and_assoc]
theorem KA {A : App} {k : Nat} (h : iM A k = false) (hk : k ≤ A.made.length + A.spends.length) : lJ A = false := by
  unfold lJ
  obtain ⟨d, hd⟩ := Nat.exists_eq_add_of_le hk
  rw [hd]
  clear hd hk
  induction d with
  | zero => exact h
  | succ d ih => rw [← Nat.add_assoc, EL, ih]; rfl
noncomputable def L67 (tm : List a9) : lN := { state := .ready, pending := none, fn := 67, tmps := tm, params := [33, 34], assign := I8, body := I4 }
end Go.Am.Ytlgebaofkolkoaa
set_option linter.unusedSimpArgs false
set_option linter.unusedVariables false
set_option linter.defProp false
set_option maxRecDepth 10000
namespace Go.Am.Ytlgebaofkolkoaa
open Go Go.Am Go.Proofs
theorem f67 (A : App) (mv sv : a9) (a b : Nat) (h : Hp) (n : Nat) (ha : jD h a b A mv sv) (hb : b ≤ n) (hf : bK h n) : Wp (aZ env (evalW env) 67 [.agg (bH A mv sv)]) h n fun v' h' n' => v' = .int .i64 (if lJ A then 0 else 200) ∧ Old h h' n := by
  refine bI ff67 fi67 ?_
  simp only [TX, Try.f67, Option.getD_some, List.replicate, aB, execOp, opd, nth, ended, aP, aQ, Nat.reduceSub, gL, gI]
  refine dC (v := .agg (bH A mv sv)) lO rfl hf fun H1 r1 o1 f1 => ?_
  replace r1 : Row H1 n (bH A mv sv) := r1
  have a1 := ha.aT (h' := H1) fun j _ q => o1 j (by omega)
  simp only [aB, tyr, fgr, execOp, opd, ofValue, aC, put, nth, aA, und, sizeOf, aV, aO, fieldAddr, gL, gI]
  rw [aN (sV r1)]
  simp only [aB, hkr, execOp, opd, bC, aC, put, nth, aI, aD, gL]
  refine dZ (f99 A.height H1 (n + 1)) ?_
  obtain ⟨b1, hb1⟩ : ∃ b, b = uD A.height := ⟨_, rfl⟩
  rw [← hb1]
  simp only [aB, execOp, opd, aC, put, nth, gL]
  refine iU (v := .ptr n 35) (fun _ => wp_pure.2 ⟨rfl, rfl, rfl⟩) ?_
  simp only [aB, aC, put, nth, List.getElem?_cons_succ, List.getElem?_cons_zero]
  refine iU (v := .int .i64 A.burnt) (fun hb => by subst hb; exact (zY r1 ha.b).wp) ?_
  simp only [aB, aC, put, nth, List.getElem?_cons_succ, List.getElem?_cons_zero]
  refine iU (v := .bool (kZ A.burnt)) (fun hb => by subst hb; exact f100 A.burnt H1 (n + 1)) ?_
  simp only [aB, execOp, opd, ofValue, aC, put, nth, mF, gL]
  obtain ⟨b2, hb2⟩ : ∃ b, b = (b1 && kZ A.burnt) := ⟨_, rfl⟩
  rw [← hb2]
  refine iU (v := .ptr n 36) (fun _ => wp_pure.2 ⟨rfl, rfl, rfl⟩) ?_
  simp only [aB, aC, put, nth, List.getElem?_cons_succ, List.getElem?_cons_zero]
  refine iU (v := .int .i64 A.left) (fun hb => by subst hb; exact (zX r1 ha.b).wp) ?_
  simp only [aB, aC, put, nth, List.getElem?_cons_succ, List.getElem?_cons_zero]
  refine iU (v := .bool (kZ A.left)) (fun hb => by subst hb; exact f100 A.left H1 (n + 1)) ?_
  simp only [aB, execOp, opd, ofValue, aC, put, nth, mF, gL]
  obtain ⟨b3, hb3⟩ : ∃ b, b = (b2 && kZ A.left) := ⟨_, rfl⟩
  rw [← hb3]
  refine iU (v := .ptr n 33) (fun _ => wp_pure.2 ⟨rfl, rfl, rfl⟩) ?_
  simp only [aB, aC, put, nth, List.getElem?_cons_succ, List.getElem?_cons_zero]
  refine iU (v := mv) (fun hb => by subst hb; exact (m8 r1 ha.b).wp) ?_
  simp only [aB, aC, put, nth, List.getElem?_cons_succ, List.getElem?_cons_zero]
  refine iU (v := .int .i64 (A.made.length : Nat)) (fun hb => by subst hb; show Wp (cI env [43] mv) _ _ _; rw [a1.m.len]; exact wp_pure.2 ⟨rfl, rfl, rfl⟩) ?_
  simp only [aB, aC, put, nth, List.getElem?_cons_succ, List.getElem?_cons_zero]
  refine iU (v := .bool (decide (((A.made.length : Nat) : Int) ≤ 5000))) (fun hb => by subst hb; exact wp_pure.2 ⟨rfl, rfl, rfl⟩) ?_
  simp only [aB, execOp, opd, ofValue, aC, put, nth, mF, gL]
  obtain ⟨b4, hb4⟩ : ∃ b, b = (b3 && decide (((A.made.length : Nat) : Int) ≤ 5000)) := ⟨_, rfl⟩
  rw [← hb4]
  refine iU (v := .ptr n 34) (fun _ => wp_pure.2 ⟨rfl, rfl, rfl⟩) ?_
  simp only [aB, aC, put, nth, List.getElem?_cons_succ, List.getElem?_cons_zero]
  refine iU (v := sv) (fun hb => by subst hb; exact (sU r1 ha.b).wp) ?_
  simp only [aB, aC, put, nth, List.getElem?_cons_succ, List.getElem?_cons_zero]
  refine iU (v := .int .i64 (A.spends.length : Nat)) (fun hb => by subst hb; show Wp (cI env [44] sv) _ _ _; rw [a1.s.len]; exact wp_pure.2 ⟨rfl, rfl, rfl⟩) ?_
  simp only [aB, aC, put, nth, List.getElem?_cons_succ, List.getElem?_cons_zero]
  refine iU (v := .bool (decide (((A.spends.length : Nat) : Int) ≤ 5000))) (fun hb => by subst hb; exact wp_pure.2 ⟨rfl, rfl, rfl⟩) ?_
  simp only [aB, execOp, opd, ofValue, aC, put, nth, mF]
  have hb5 : (b4 && decide (((A.spends.length : Nat) : Int) ≤ 5000)) = iM A 0 := by
    rw [NS, hb4, hb3, hb2, hb1]
    unfold JT
    have q1 : decide (((A.made.length : Nat) : Int) ≤ 5000) = decide (A.made.length ≤ 5000) := by rw [decide_eq_decide]; omega
    have q2 : decide (((A.spends.length : Nat) : Int) ≤ 5000) = decide (A.spends.length ≤ 5000) := by rw [decide_eq_decide]; omega
    rw [q1, q2]
  rw [hb5]
  rw [cG ti4 rfl]
  simp only [aB, execOp, opd, aC, put, nth, cel]
  refine dW (v := .bool (iM A 0)) ti4 rfl rfl rfl f1 fun H2 r2 o2 f2 => ?_
  replace r2 : Row H2 (n + 1) [.bool (iM A 0)] := r2
  have r12 := r1.aT (o2 n (by omega))
  simp only [aB, fgr, execOp, opd, aC, nth, aA]
  rw [aN (lM r12 ha.b)]
  simp only [aB, hkr, execOp, opd, bC, aC, put, nth, aI, aD, gL]
  refine bB f2 (f101 A mv sv H2 (n + 1 + 1) f2) fun v3 h3 n3 hn3 f3 ⟨e3, r3, o3, en3⟩ => ?_
  subst e3; subst en3
  simp only [aB, fgr, aC, put, aA]
  refine mC (g := 113) (first := []) (cap := [.ptr (n + 1 + 1) 0]) rfl rfl ?_
  let TM : List a9 := (.agg (bH A mv sv) :: .ptr n 0 :: .int .i64 0 :: .ptr (n + 1) 0 :: a9.junk :: undef :: a9.junk :: a9.junk :: a9.junk :: a9.junk :: a9.junk :: a9.junk :: a9.junk :: a9.junk :: a9.junk :: a9.junk :: a9.junk :: a9.junk :: a9.junk :: a9.junk :: a9.junk :: a9.junk :: a9.junk :: a9.junk :: a9.junk :: a9.junk :: a9.junk :: a9.junk :: a9.junk :: a9.junk :: a9.junk :: a9.junk :: .fn (.func 113) [] [.ptr (n + 1 + 1) 0] :: a9.junk :: undef :: a9.junk :: a9.junk :: a9.junk :: a9.junk :: a9.junk :: undef :: a9.junk :: undef :: [])
  obtain ⟨H4, hH4⟩ : ∃ H4, H4 = upd h3 (n + 1 + 1 + 1) (some (Blk.loop (L67 TM))) := ⟨_, rfl⟩
  show Wp (bT env (evalW env) 113 [a9.fn (Fn.yield (n + 1 + 1 + 1)) [] [], a9.ptr (n + 1 + 1) 0]) (upd h3 (n + 1 + 1 + 1) (some (Blk.loop (L67 TM)))) (n + 1 + 1 + 1 + 1) _
  rw [OU, ← hH4]
  have f4 : bK H4 (n + 1 + 1 + 1 + 1) := by rw [hH4]; exact f3.new
  have o4 : ∀ j, j ≠ n + 1 + 1 + 1 → H4 j = h3 j := fun j hj => by rw [hH4, aR _ _ hj]
  have g4 : H4 (n + 1 + 1 + 1) = some (.loop (L67 TM)) := by rw [hH4, aU]
  clear hH4
  have old4 : ∀ j, j < n → H4 j = h j := fun j hj => by rw [o4 j (by omega), o3 j (by omega), o2 j (by omega), o1 j (by omega)]
  have a4 : jD H4 a b A mv sv := ha.aT fun j _ q => old4 j (by omega)
  have r4 : Row H4 (n + 1) [.bool (iM A 0)] := (r2.aT (o3 _ (by omega))).aT (o4 _ (by omega))
  have rc4 : Row H4 (n + 1 + 1) (bH A mv sv) := r3.aT (o4 _ (by omega))
  have step : ∀ (k : Nat) (w pv : a9) (h1 : Hp) (n1 : Nat), k < A.made.length + A.spends.length → Row h1 (n + 1) [.bool (iM A k)] → h1 (n + 1 + 1 + 1) = some (.loop (L67 TM)) → (∀ j, j < n + 1 + 1 + 1 + 1 → j ≠ n + 1 → j ≠ n + 1 + 1 + 1 → h1 j = H4 j) → n + 1 + 1 + 1 + 1 ≤ n1 → bK h1 n1 → w = .bool (vC A k) →
      Wp (jA env (evalW env) (.fn (.yield (n + 1 + 1 + 1)) [] []) [pv, w]) h1 n1 fun v' h' n' => ((yes true v' ∧ Row h' (n + 1) [.bool (iM A (k + 1))] ∧ h' (n + 1 + 1 + 1) = some (.loop (L67 TM)) ∧ (∀ j, j < n + 1 + 1 + 1 + 1 → j ≠ n + 1 → j ≠ n + 1 + 1 + 1 → h' j = H4 j)) ∨
        (yes false v' ∧ lJ A = false ∧ Row h' (n + 1) [.bool false] ∧ (∃ l, h' (n + 1 + 1 + 1) = some (.loop l) ∧ l.state = .done ∧ l.pending = some (.exit 0)) ∧ (∀ j, j < n + 1 + 1 + 1 + 1 → j ≠ n + 1 → j ≠ n + 1 + 1 + 1 → h' j = H4 j))) ∧ ∀ j, n + 1 + 1 + 1 + 1 ≤ j → j < n1 → h' j = h1 j := by
    intro k w pv h1 n1 hk hr1 hlo hkp hn1 hf1 hw
    refine nG hlo rfl rfl ?_
    simp only [I8, List.getD_cons_zero, lW, List.zip_cons_cons, List.zip_nil_left, L67, TM, cS, Try.f67, Option.getD_some, aB, fgr, execOp, opd, aC, put, nth, aA, gL, gB]
    refine ⟨_, hlo, rfl, ?_⟩
    obtain ⟨h2, hh2⟩ : ∃ h2, h2 = upd h1 (n + 1 + 1 + 1) (some (Blk.loop { L67 TM with state := .busy })) := ⟨_, rfl⟩
    have ho2 : ∀ j, j ≠ n + 1 + 1 + 1 → h2 j = h1 j := fun j hj => by rw [hh2, aR _ _ hj]
    have hlo2 : h2 (n + 1 + 1 + 1) = some (.loop { L67 TM with state := .busy }) := by rw [hh2, aU]
    have hf2 : bK h2 n1 := by rw [hh2]; exact hf1.upd (by omega)
    show Run env 67 _ _ _ _ _ (upd h1 (n + 1 + 1 + 1) (some (Blk.loop { L67 TM with state := .busy }))) n1
    rw [← hh2]
    clear hh2
    obtain ⟨e0, hr2⟩ := hr1.aT (ho2 (n + 1) (by omega))
    simp only [I4, List.getD_cons_zero, cS, Try.f67, Option.getD_some, aB, fgr, execOp, opd, nth, gL]
    subst hw
    have rd2 : Rd (load env 4 (.ptr (n + 1) 0)) h2 n1 [n + 1] (.bool (iM A k)) := Row.one (cs := [.bool (iM A k)]) (off := 0) ⟨e0, hr2⟩ rfl ti4 rfl
    rw [aN rd2]
    simp only [aB, execOp, opd, aC, put, nth, gL]
    refine iU (v := .bool (vC A k)) (fun _ => wp_pure.2 ⟨rfl, rfl, rfl⟩) ?_
    simp only [aB, execOp, opd, ofValue, aC, put, nth, mF]
    rw [← EL]
    rw [eC (Row.write (v := .bool (iM A (k + 1))) hr2 ti4 rfl (by show 0 + 1 ≤ 1; omega) rfl)]
    obtain ⟨h3', hh3⟩ : ∃ h3', h3' = upd h2 (n + 1) (some (.row (.l [.bool (iM A (k + 1))]) e0)) := ⟨_, rfl⟩
    show Ops _ _ _ _ _ _ _ _ (upd h2 (n + 1) (some (.row (.l [.bool (iM A (k + 1))]) e0))) _
    rw [← hh3]
    have r3' : Row h3' (n + 1) [.bool (iM A (k + 1))] := ⟨e0, by rw [hh3, aU]⟩
    have o3' : ∀ j, j ≠ n + 1 → h3' j = h2 j := fun j hj => by rw [hh3, aR _ _ hj]
    clear hh3
    have hlo3 : h3' (n + 1 + 1 + 1) = some (.loop { L67 TM with state := .busy }) := (o3' _ (by omega)).trans hlo2
    simp only [aB, fgr, execOp, opd, aC, nth, aA]
    rw [aN (r3'.one (off := 0) rfl ti4 rfl)]
    cases hfb : iM A (k + 1) with
    | true =>
      rw [hfb] at r3'
      simp only [aB, fgr, execOp, opd, aC, put, nth, aA, unOp, gB]
      refine ⟨_, hlo3, .inl ⟨.inl rfl, (r3'.upd (by omega)), aU _ _ _, fun j h1 h2 h3 => ?_⟩, fun j h1 h2 => ?_⟩
      · rw [aR _ _ h3, o3' j h2, ho2 j h3, hkp j h1 h2 h3]
      · rw [aR _ _ (by omega), o3' j (by omega), ho2 j (by omega)]
    | false =>
      rw [hfb] at r3'
      simp only [aB, bE, fgr, execOp, opd, aC, put, nth, aA, unOp, gB]
      refine ⟨_, hlo3, .inr ⟨.inl rfl, KA hfb (by omega), (r3'.upd (by omega)), ⟨_, aU _ _ _, rfl, rfl⟩, fun j h1 h2 h3 => ?_⟩, fun j h1 h2 => ?_⟩
      · rw [aR _ _ h3, o3' j h2, ho2 j h3, hkp j h1 h2 h3]
      · rw [aR _ _ (by omega), o3' j (by omega), ho2 j (by omega)]
  have lo4 : ∀ (h1 h2 : Hp), (∀ j, j < n + 1 + 1 + 1 + 1 → h2 j = h1 j) → (∀ j, j < n + 1 + 1 + 1 + 1 → j ≠ n + 1 → j ≠ n + 1 + 1 + 1 → h1 j = H4 j) → ∀ j, j < n + 1 + 1 + 1 + 1 → j ≠ n + 1 → j ≠ n + 1 + 1 + 1 → h2 j = H4 j := fun h1 h2 q k j q1 q2 q3 => by rw [q j q1, k j q1 q2 q3]
  refine wp_mono (f113 (.fn (.yield (n + 1 + 1 + 1)) [] []) mv sv (n + 1 + 1) a b A H4 (n + 1 + 1 + 1 + 1) (by omega) (by omega) f4
    (fun k h1 => Row h1 (n + 1) [.bool (iM A k)] ∧ h1 (n + 1 + 1 + 1) = some (.loop (L67 TM)) ∧ ∀ j, j < n + 1 + 1 + 1 + 1 → j ≠ n + 1 → j ≠ n + 1 + 1 + 1 → h1 j = H4 j)
    (fun h1 => lJ A = false ∧ Row h1 (n + 1) [.bool false] ∧ (∃ l, h1 (n + 1 + 1 + 1) = some (.loop l) ∧ l.state = .done ∧ l.pending = some (.exit 0)) ∧ ∀ j, j < n + 1 + 1 + 1 + 1 → j ≠ n + 1 → j ≠ n + 1 + 1 + 1 → h1 j = H4 j)
    ⟨r4, g4, fun j _ _ _ => rfl⟩ ?_ ?_ ?_ ?_ ?_) ?_
  · rintro k h1 ⟨q1, q2, q3⟩
    exact ⟨rc4.aT (q3 _ (by omega) (by omega) (by omega)), a4.aT fun j _ q => q3 j (by omega) (by omega) (by omega)⟩
  · rintro k h1 h2 ⟨q1, q2, q3⟩ q
    exact ⟨q1.aT (q _ (by omega)), (q _ (by omega)).trans q2, lo4 h1 h2 q q3⟩
  · rintro h1 h2 ⟨q0, q1, ⟨l, q2, q4, q5⟩, q3⟩ q
    exact ⟨q0, q1.aT (q _ (by omega)), ⟨l, (q _ (by omega)).trans q2, q4, q5⟩, lo4 h1 h2 q q3⟩
  · rintro k hk w h1 n1 ⟨q1, q2, q3⟩ hn1 hf1 hw
    exact step k w _ h1 n1 (by omega) q1 q2 q3 hn1 hf1 (by rw [hw]; unfold vC; rw [if_pos hk])
  · rintro k hk w h1 n1 ⟨q1, q2, q3⟩ hn1 hf1 hw
    exact step (A.made.length + k) w _ h1 n1 (by omega) q1 q2 q3 hn1 hf1 (by rw [hw]; unfold vC; rw [if_neg (by omega), Nat.add_sub_cancel_left])
  · rintro v5 h5 n5 ⟨e5, hh⟩
    rcases hh with ⟨q1, q2, q3⟩ | ⟨q0, q1, ⟨l, q2, q4, q5⟩, q3⟩
    · refine ⟨_, q2, (fun q => by cases q), .normal, rfl, ?_⟩
      replace q1 : Row h5 (n + 1) [.bool (lJ A)] := q1
      simp only [aB, execOp, opd, nth]
      rw [aN ((q1.upd (i := n + 1 + 1 + 1) (by omega)).one (off := 0) rfl ti4 rfl)]
      have old5 : ∀ (b : Option Blk), Old h (upd h5 (n + 1 + 1 + 1) b) n := fun b j hj => by rw [aR _ _ (by omega), q3 j (by omega) (by omega) (by omega), old4 j hj]
      cases hcb : lJ A with
      | true => simp only [aB, fgr, execOp, opd, ofValue, aC, put, nth, aA, unOp, ↓reduceIte, gB]; exact old5 _
      | false => simp only [aB, fgr, execOp, opd, ofValue, aC, put, nth, aA, unOp, ↓reduceIte, reduceCtorEq, gB]; exact old5 _
    · refine ⟨_, q2, (fun q => by rw [q4] at q; cases q), .exit 0, by rw [q5], ?_⟩
      simp only [aB, execOp, opd, nth]
      rw [aN ((q1.upd (i := n + 1 + 1 + 1) (by omega)).one (off := 0) rfl ti4 rfl)]
      have old5 : ∀ (b : Option Blk), Old h (upd h5 (n + 1 + 1 + 1) b) n := fun b j hj => by rw [aR _ _ (by omega), q3 j (by omega) (by omega) (by omega), old4 j hj]
      rw [q0]
      simp only [aB, fgr, execOp, opd, ofValue, aC, put, nth, aA, unOp, ↓reduceIte, reduceCtorEq, gB]; exact old5 _
structure Ixw (K T : Nat → Prop) (h : Hp) (n x : Nat) (L : List Ver) : Prop where
  ix : ∃ D M, Ix h n D M x L ∧ (∀ j, K j → j < n ∧ ¬ M j) ∧ ∀ j, T j → j < n ∧ ¬ D j
  g : ∀ v ∈ L, Good v
variable {K T : Nat → Prop} {h h' : Hp} {n n' x : Nat} {L : List Ver}
theorem Ixw.rL (s : Ixw K T h n x L) : dD false L := by
  obtain ⟨⟨D, M, i, _⟩, _⟩ := s
  exact i.r
theorem Ixw.ok (s : Ixw K T h n x L) : ∀ v ∈ L, v.Ok ∧ v.script.length ≤ 1000000 := by
  obtain ⟨⟨D, M, i, _⟩, _⟩ := s
  exact i.ok
theorem Ixw.sub {K' : Nat → Prop} (s : Ixw K T h n x L) (hk : ∀ j, K' j → K j) : Ixw K' T h n x L := by
  obtain ⟨⟨D, M, i, q, t⟩, g⟩ := s
  exact ⟨⟨D, M, i, fun j hj => q j (hk j hj), t⟩, g⟩
theorem Ixw.grow (s : Ixw K T h n x L) (hn : n ≤ n') (ho : Old h h' n) : Ixw (fun j => K j ∨ (n ≤ j ∧ j < n')) T h' n' x L := by
  obtain ⟨⟨D, M, i, q, t⟩, g⟩ := s
  refine ⟨⟨D, M, i.old hn ho, fun j hj => ?_, fun j hj => ⟨by have := (t j hj).1; omega, (t j hj).2⟩⟩, g⟩
  rcases hj with hj | hj
  · exact ⟨by have := (q j hj).1; omega, (q j hj).2⟩
  · obtain ⟨⟨S, ⟨vl, vs, xl, xs, iv, mx, ml, ms, mn⟩, _⟩, _⟩ := i
    exact ⟨hj.2, fun w => by have := (mn j w).1; omega⟩
theorem Ixw.old (s : Ixw K T h n x L) (hn : n ≤ n') (ho : Old h h' n) : Ixw K T h' n' x L := (s.grow hn ho).sub fun j q => .inl q
theorem Chg.w {D M D' M' : Nat → Prop} (c : Chg h n D M h' n' D' M') (q : ∀ j, K j → j < n ∧ ¬ M j) (t : ∀ j, T j → j < n ∧ ¬ D j) : (∀ j, K j → h' j = h j) ∧ (∀ j, K j → j < n' ∧ ¬ M' j) ∧ ∀ j, T j → j < n' ∧ ¬ D' j := by
  refine ⟨fun j hj => c.old j (q j hj).1 (q j hj).2, fun j hj => ⟨by have := (q j hj).1; have := c.nx; omega, fun w => ?_⟩, fun j hj => ⟨by have := (t j hj).1; have := c.nx; omega, fun w => ?_⟩⟩
  · have := q j hj
    rcases c.m' j w with w | w
    · exact this.2 w
    · omega
  · have := t j hj
    rcases c.d' j w with w | w
    · exact this.2 w
    · omega
theorem f33w (v : Ver) (sv : a9) (ov : v.Ok) (hpn : 0 ≤ v.pn) (hsl : v.script.length ≤ 1000000) (hs : Ixw K T h n x L) (hb : Bytes h sv v.script) (hsn : ∀ j, bD sv = some j → j < n) (hc : L.length ≤ 900000) (hf : bK h n) :
    Wp (aZ env (evalW env) 33 [.ptr x 0, .agg (aS v sv)]) h n fun v' h' n' => (∀ j, K j → h' j = h j) ∧ ((zO v L ∧ v' = .int .i64 210 ∧ Ixw K T h' n' x L) ∨ (¬ zO v L ∧ v' = .int .i64 0 ∧ Ixw K T h' n' x (mE L v))) := by
  obtain ⟨⟨D, M, i, q, t⟩, g⟩ := hs
  refine wp_mono (f33 x v sv ov hsl L D M h n i hb hsn hc hf) fun v' h' n' hh => ?_
  rcases hh with ⟨a, b, i', c⟩ | ⟨a, b, D', M', i', c⟩
  · exact ⟨(c.w q t).1, .inl ⟨a, b, ⟨⟨_, _, i', (c.w q t).2⟩, g⟩⟩⟩
  · refine ⟨(c.w q t).1, .inr ⟨a, b, ⟨⟨_, _, i', (c.w q t).2⟩, fun w hw => ?_⟩⟩⟩
    rcases AH.1 hw with rfl | hw
    · refine ⟨?_, hpn⟩
      cases e : tP w with
      | false => rfl
      | true => exact absurd (.inl e) a
    · exact g w hw
theorem f34w (hash : List UInt8) (pn made : Int) (hl : hash.length = 32) (hs : Ixw K T h n x L) (hc : L.length ≤ 900000) (hf : bK h n) :
    Wp (aZ env (evalW env) 34 [.ptr x 0, .agg (aX hash pn), .int .i64 made]) h n fun v' h' n' => (∀ j, K j → h' j = h j) ∧ (((∀ w ∈ L, fB w (key hash pn made) ≠ 0) ∧ v' = .int .i64 210 ∧ Ixw K T h' n' x L) ∨ ∃ w, w ∈ L ∧ fB w (key hash pn made) = 0 ∧ v' = .int .i64 0 ∧ Ixw K T h' n' x (kD L w)) := by
  obtain ⟨⟨D, M, i, q, t⟩, g⟩ := hs
  refine wp_mono (f34 x hash pn made hl L D M h n i (by omega) hf) fun v' h' n' ⟨hh, c⟩ => ?_
  rcases hh with ⟨a, b, i'⟩ | ⟨w, a, b, e, i'⟩
  · exact ⟨(c.w q t).1, .inl ⟨a, b, ⟨⟨_, _, i', (c.w q t).2⟩, g⟩⟩⟩
  · exact ⟨(c.w q t).1, .inr ⟨w, a, b, e, ⟨⟨_, _, i', (c.w q t).2⟩, fun u hu => g u (GP hu)⟩⟩⟩
theorem f36w (hash : List UInt8) (pn made s : Int) (b : List UInt8) (hl : hash.length = 32) (hbl : b.length = 32) (hs : Ixw K T h n x L) (hc : L.length ≤ 900000) (hf : bK h n) :
    Wp (aZ env (evalW env) 36 [.ptr x 0, .agg (aX hash pn), .int .i64 made, .int .i64 s, .agg (b.map u8)]) h n fun v' h' n' => (∀ j, K j → h' j = h j) ∧
      (((∀ w ∈ L, fB w (key hash pn made) = 0 → (w.spent ≠ 0 ∨ s < 1 ∨ s < made)) ∧ v' = .int .i64 210 ∧ Ixw K T h' n' x L) ∨
      (∃ w ∈ L, fB w (key hash pn made) = 0 ∧ w.spent = 0 ∧ 1 ≤ s ∧ made ≤ s ∧ v' = .int .i64 0 ∧ Ixw K T h' n' x (pK L w (iR w s b)))) := by
  have rL := hs.rL
  obtain ⟨⟨D, M, i, q, t⟩, g⟩ := hs
  refine wp_mono (f36 x hash pn made s b hl hbl L D M h n i hc hf) fun v' h' n' hh => ?_
  rcases hh with ⟨a, e, i', c⟩ | ⟨w, hw, a1, a2, a3, a4, e, D', M', i', c⟩
  · exact ⟨(c.w q t).1, .inl ⟨a, e, ⟨⟨_, _, i', (c.w q t).2⟩, g⟩⟩⟩
  · rw [EP rL hw] at i'
    refine ⟨(c.w q t).1, .inr ⟨w, hw, a1, a2, a3, a4, e, ⟨⟨_, _, i', (c.w q t).2⟩, fun u hu => ?_⟩⟩⟩
    rcases qO hu with rfl | hu
    · exact yA (g w hw) (.inr ⟨a3, by rw [(yB a1).2.2]; exact a4⟩)
    · exact g u hu
theorem f38w (hash : List UInt8) (pn made : Int) (hl : hash.length = 32) (hs : Ixw K T h n x L) (hc : L.length ≤ 900000) (hf : bK h n) :
    Wp (aZ env (evalW env) 38 [.ptr x 0, .agg (aX hash pn), .int .i64 made]) h n fun v' h' n' => (∀ j, K j → h' j = h j) ∧
      (((∀ w ∈ L, fB w (key hash pn made) = 0 → w.spent = 0) ∧ v' = .int .i64 210 ∧ Ixw K T h' n' x L) ∨
      (∃ w ∈ L, fB w (key hash pn made) = 0 ∧ w.spent ≠ 0 ∧ v' = .int .i64 0 ∧ Ixw K T h' n' x (pK L w (iR w 0 z32)))) := by
  have rL := hs.rL
  obtain ⟨⟨D, M, i, q, t⟩, g⟩ := hs
  refine wp_mono (f38 x hash pn made hl L D M h n i hc hf) fun v' h' n' hh => ?_
  rcases hh with ⟨a, e, i', c⟩ | ⟨w, hw, a1, a2, e, D', M', i', c⟩
  · exact ⟨(c.w q t).1, .inl ⟨a, e, ⟨⟨_, _, i', (c.w q t).2⟩, g⟩⟩⟩
  · rw [EP rL hw] at i'
    refine ⟨(c.w q t).1, .inr ⟨w, hw, a1, a2, e, ⟨⟨_, _, i', (c.w q t).2⟩, fun u hu => ?_⟩⟩⟩
    rcases qO hu with rfl | hu
    · exact yA (g w hw) (.inl rfl)
    · exact g u hu
theorem Ixw.k (s : Ixw K T h n x L) : Ixk (fun _ => False) h n x L := by
  obtain ⟨⟨D, M, i, q, t⟩, g⟩ := s
  exact ⟨⟨D, M, i, fun j q => q.elim⟩, g⟩
theorem wO {E : Env} {h : Hp} {n : Nat} {t t2 e : TypeId} {i : TI} {s x : a9} {cnt k : Nat} {xs ys : List a9} (hs : Lst h e i.size s cnt xs) (hx : Rds h i.size x k ys)
    (ht : und E t = M.pure (.slice e)) (ht2 : und E t2 = M.pure (.slice e)) (hi : ti E e = M.pure i) (hk : 0 < k)
    (hroom : 2 * (cnt + k) * i.bytes ≤ 281474976710656) (hroom2 : cnt + k ≤ 281474976710656) :
    Wp (fG E [t, t2] (tE cnt s) x) h n fun v' h' n' => v' = .sl n 0 (cnt + k) none i.size ∧ h' = upd h n (some (.row (.l (xs ++ ys)) e)) ∧ n' = n + 1 := by
  simp only [fG, ht2, bind_pure, eU, append, ht, hi, hx.len, fW]
  have hk0 : k.beq 0 = false := jM (by omega)
  simp only [hk0]
  refine eV hx.cells ?_
  have r1 : ((2 * (cnt + k) * i.bytes).ble room && (cnt + k).ble room) = true := by
    unfold room
    rw [cT hroom, cT hroom2]; rfl
  have hc := hs.cut (Nat.le_refl cnt)
  rw [List.take_of_length_le (by rw [hs.rds.length]; exact Nat.le_refl _)] at hc
  have hrd := hc.rds.cells (n := n)
  cases hs with
  | nil =>
    rw [Nat.zero_add] at r1
    simp only [tE, grown, eL, gV, wp_pure, r1, List.nil_append, Nat.zero_add, and_self]
  | sl id cnt cap cells xs hh hl hcc hxs =>
    have hf2 : (cnt + k).ble cnt = false := gP (by omega)
    simp only [tE, bN, Nat.beq_refl, eW, hh, Option.some.injEq, exists_eq_left', cO, fW, hf2]
    refine eV hrd ?_
    simp only [grown, eL, gV, wp_pure, r1, and_self]
structure Inf where
  height : Int
  block : List UInt8
  coins : Int
  total : Int
  burnt : Int
  left : Int
def bP (i : Inf) : List a9 := .int .i64 i.height :: (i.block.map u8 ++ [.int .i64 i.coins, .int .i64 i.total, .int .i64 i.burnt, .int .i64 i.left])
def gR : Inf := ⟨0, z32, 0, 0, 0, 0⟩
theorem bW {i : Inf} (hb : i.block.length = 32) : (bP i).length = 37 := by simp [bP, hb]
theorem fA (i : Inf) : (bP i).all bJ = true := by
  unfold bP
  rw [List.all_cons, List.all_append, List.all_map]
  simp [u8, bJ]
theorem lC {i : Inf} (hb : i.block.length = 32) (k : Nat) : (bP i)[33 + k]? = [a9.int .i64 i.coins, .int .i64 i.total, .int .i64 i.burnt, .int .i64 i.left][k]? := by
  unfold bP
  rw [show 33 + k = 32 + k + 1 by omega, List.getElem?_cons_succ, List.getElem?_append_right (by simp [hb]), List.length_map, hb]
  congr 1; omega
structure IL (h : Hp) (v : a9) (I : List Inf) : Prop where
  ex : ∃ cells, Lst h 61 37 v I.length cells ∧ ∀ (j : Nat) (hj : j < I.length), (cells.drop (j * 37)).take 37 = bP I[j] ∧ I[j].block.length = 32
theorem IL.aT {h h' : Hp} {v : a9} {I : List Inf} (l : IL h v I) (hk : ∀ j, bD v = some j → h' j = h j) : IL h' v I := by
  obtain ⟨cells, c1, c2⟩ := l
  exact ⟨cells, c1.aT hk, c2⟩
theorem u57 : und env 57 = M.pure (.slice 61) := rfl
theorem PB : sizeOf env 61 = M.pure 37 := rfl
theorem IL.len {h : Hp} {v : a9} {I : List Inf} (l : IL h v I) {ts : List TypeId} : cI env (57 :: ts) v = M.pure (.int .i64 (I.length : Nat)) := by
  obtain ⟨cells, c1, c2⟩ := l
  exact c1.rds.cI u57
theorem IL.kind {h : Hp} {v : a9} {I : List Inf} (l : IL h v I) : v.cells = [v] ∧ bJ v = true ∧ dT v = false := by
  obtain ⟨cells, c1, c2⟩ := l
  exact c1.rds.kind
theorem IL.idx {h : Hp} {v : a9} {I : List Inf} (l : IL h v I) {i : Nat} (hi : i < I.length) {h' : Hp} {n' : Nat} : Rd (indexAddr env 57 v (.int .i64 ((i : Nat) : Int))) h' n' [] (addrOf (i * 37) v) := by
  obtain ⟨cells, c1, c2⟩ := l
  exact c1.rds.idx u57 PB rfl hi
theorem IL.all {h : Hp} {n : Nat} {v : a9} {I : List Inf} (l : IL h v I) {i : Nat} (hi : i < I.length) : I[i].block.length = 32 ∧ Rd (load env 61 (addrOf (i * 37) v)) h n (rid v) (.agg (bP I[i])) := by
  obtain ⟨cells, c1, c2⟩ := l
  obtain ⟨e, o⟩ := c2 i hi
  refine ⟨o, ?_⟩
  have hl : cells.length = I.length * 37 := c1.rds.length
  have := c1.rds.agg (E := env) (n := n) (k := i * 37) gJ rfl (by decide) (by show i * 37 + 37 ≤ _; omega)
  have e' : (cells.drop (i * 37)).take 37 = bP I[i] := e
  exact e' ▸ this
theorem IL.live {h : Hp} {n : Nat} {v : a9} {I : List Inf} (l : IL h v I) (hf : bK h n) {j : Nat} (hj : bD v = some j) : j < n := by
  obtain ⟨cells, c1, c2⟩ := l
  exact c1.live hf hj
theorem IL.nil {h : Hp} : IL h .nils [] := ⟨[], .nil, fun j hj => by simp at hj⟩
structure St (W : Nat → Prop) (h : Hp) (n s : Nat) (L : List Ver) (I : List Inf) : Prop where
  ex : ∃ x lv, Row h s [.ptr x 0, lv] ∧ Ixw W W h n x L ∧ IL h lv I ∧ (∀ j, bD lv = some j → j < n ∧ ¬ W j) ∧ W s ∧ ∀ j, W j → j < n
theorem St.sn {W : Nat → Prop} {h : Hp} {n s : Nat} {L : List Ver} {I : List Inf} (q : St W h n s L I) : s < n := by
  obtain ⟨x, lv, r, i, l, a, b, c⟩ := q
  exact c s b
theorem St.rL {W : Nat → Prop} {h : Hp} {n s : Nat} {L : List Ver} {I : List Inf} (q : St W h n s L I) : dD false L := by
  obtain ⟨x, lv, r, i, l, a, b, c⟩ := q
  exact i.rL
theorem St.next {W : Nat → Prop} {h h' : Hp} {n n' s : Nat} {L : List Ver} {I : List Inf} (q : St W h n s L I) (hn : n ≤ n') (hk : ∀ j, j < n → (j = s ∨ ¬ W j) → h' j = h j) : St W h' n' s L I := by
  obtain ⟨x, lv, r, ⟨⟨D, M, i, k, t⟩, g⟩, l, a, b, c⟩ := q
  have in_ : ∀ j, j < n → (D j ∨ M j) → h' j = h j := fun j hj w => hk j hj (.inr fun y => by
    rcases w with w | w
    · exact (t j y).2 w
    · exact (k j y).2 w)
  exact ⟨x, lv, r.aT (hk s (c s b) (.inl rfl)), ⟨⟨D, M, i.beside hn in_, fun j y => ⟨by have := c j y; omega, (k j y).2⟩, fun j y => ⟨by have := c j y; omega, (t j y).2⟩⟩, g⟩, l.aT fun j y => hk j (a j y).1 (.inr (a j y).2), fun j y => ⟨by have := (a j y).1; omega, (a j y).2⟩, b, fun j y => by have := c j y; omega⟩
theorem St.old {W : Nat → Prop} {h h' : Hp} {n n' s : Nat} {L : List Ver} {I : List Inf} (q : St W h n s L I) (hn : n ≤ n') (ho : Old h h' n) : St W h' n' s L I := q.next hn fun j hj _ => ho j hj
theorem f66 (s x : Nat) (lv : a9) (h : Hp) (n : Nat) (hr : Row h s [.ptr x 0, lv]) : Wp (aZ env (evalW env) 66 [.ptr s 0]) h n fun v' h' n' => v' = .bool false ∧ h' = h ∧ n' = n := by
  refine bI UP UN ?_
  simp only [D4, Try.f66, Option.getD_some, List.replicate, aB, tyr, fgr, execOp, opd, ofValue, aC, put, nth, aA, und, sizeOf, bor, aY, dH, dQ, nilCheck, aV, ended, aP, aQ, aO, fieldAddr, bG, equal, cR, cD, cE, Nat.reduceSub, gL, gB, gI]
  rw [aN (hr.one (off := 0) rfl pV rfl)]
  simp only [aB, tyr, fgr, execOp, opd, ofValue, aC, put, nth, aA, und, bor, aY, dH, dQ, aW, branch, bG, equal, cR, cD, cE, gL, gB]
theorem MJ (s x : Nat) (lv : a9) (I : List Inf) (h : Hp) (n : Nat) (hr : Row h s [.ptr x 0, lv]) (hi : IL h lv I) (hc : I.length ≤ 1000000) : Rd (Ins.yL [.ptr s 0]) h n [s] (.int .i64 ((I.length : Nat) - 1)) := by
  obtain ⟨t, hr⟩ := hr
  obtain ⟨cells, c1, c2⟩ := hi
  have key : Rd ((fI s).bind (cO fun c _ => match c with
          | .l cs => match cs with
            | [x, lv] => match x with
              | .ptr _ _ => match lv with
                | .nils => M.pure (a9.int .i64 (-1))
                | .sl _ _ len _ _ => match len.ble 1000000 with
                  | true => M.pure (.int .i64 ((len : Nat) - 1))
                  | false => fail "Tip"
                | _ => fail "Tip"
              | _ => fail "Tip"
            | _ => fail "Tip"
          | _ => fail "Tip")) h n ([] ++ [s]) (.int .i64 ((I.length : Nat) - 1)) := by
    refine Rd.bind (Rd.get hr) ?_
    clear c2; generalize hI : I.length = len at *
    cases c1 with
    | nil => exact Rd.pure _
    | sl id cnt cap cells xs hh hl hcc hx =>
      simp only [cO, cT hc]
      exact Rd.pure _
  exact key
theorem HS {W : Nat → Prop} {h : Hp} {n s : Nat} {L : List Ver} {I : List Inf} (q : St W h n s L I) (hc : I.length ≤ 1000000) : Rd (Ins.yL [.ptr s 0]) h n [s] (.int .i64 ((I.length : Nat) - 1)) := by
  obtain ⟨x, lv, r, i, l, a, b, c⟩ := q
  exact MJ s x lv I h n r l hc
theorem f70 (v : a9) (I : List Inf) (h0 h : Hp) (n : Nat) (hv : IL h0 v I) : Wp (aZ env (evalW env) 70 [v]) h n fun v' h' n' => v' = tE I.length v ∧ h' = h ∧ n' = n := by
  refine bI ff70 fi70 ?_
  simp only [TU, Try.f70, Option.getD_some, List.replicate, aB, fgr, execOp, opd, bC, opt, ofValue, aC, put, nth, aA, aI, builtin, dB, ended, aP, aQ, Nat.reduceSub, hv.len, gL, gI]
  obtain ⟨cells, c1, c2⟩ := hv
  rw [aN (c1.US u57 PB rfl (Nat.le_refl _))]
  simp only [aB, fgr, execOp, opd, aC, put, nth, aA, gB]
theorem T2 {h : Hp} {v : a9} {I : List Inf} {cells : List a9} (c1 : Lst h 61 37 v I.length cells) (c2 : ∀ (j : Nat) (hj : j < I.length), (cells.drop (j * 37)).take 37 = bP I[j] ∧ I[j].block.length = 32) : cells.all bJ = true := by
  rw [List.all_eq_true]
  intro c hc
  obtain ⟨k, hk, rfl⟩ := List.mem_iff_getElem.1 hc
  have hl : cells.length = I.length * 37 := c1.rds.length
  have hj : k / 37 < I.length := by omega
  have e := (c2 (k / 37) hj).1
  have hp := piece e (i := k % 37) (by omega)
  rw [show k / 37 * 37 + k % 37 = k by omega, List.getElem?_eq_getElem hk] at hp
  exact List.all_eq_true.1 (fA I[k / 37]) _ (List.mem_of_getElem? hp.symm)
theorem f71 (v : a9) (I : List Inf) (h : Hp) (n : Nat) (hv : IL h v I) (hc : I.length ≤ 1000000) (hf : bK h n) :
    Wp (aZ env (evalW env) 71 [v]) h n fun v' h' n' => IL h' v' I ∧ (∀ j, bD v' = some j → n ≤ j ∧ j < n') ∧ Old h h' n := by
  obtain ⟨cells, c1, c2⟩ := hv
  have h1 := T2 c1 c2
  refine bI ff71 fi71 ?_
  obtain ⟨en, en2⟩ := c1.B9 u57
  simp only [TS, Try.f71, Option.getD_some, List.replicate, aB, fgr, execOp, opd, ofValue, aC, put, nth, aA, ended, aP, aQ, Nat.reduceSub, en, gL, gI]
  cases hnil : lB v with
  | true =>
    obtain ⟨e1, e2, e3⟩ := en2 hnil
    have : I = [] := List.eq_nil_of_length_eq_zero e2
    subst this
    simp only [aB, fgr, execOp, opd, ofValue, aC, put, nth, aA, gB]
    exact ⟨.nil, (fun j q => by cases q), Old.refl _ _⟩
  | false =>
    simp only [aB, tyr, execOp, dA, und, aV, buildSlice, fF, fill, Nat.ble, gI]
    refine j6 gJ hf (f := fun id => a9.sl id 0 0 (some 0) 37) fun H r o f => ?_
    simp only [aB, execOp, opd, bC, aC, put, nth, aI, builtin, eT]
    have c1' := c1.aT (h' := H) fun j q => o j (by have := c1.live hf q; omega)
    refine fZ (i := sF.i) (e := 61) (cnt := 0) (xs := []) (.sl n 0 (some 0) [] [] r (by simp) (fun k hk => by injection hk with hk; subst hk; simp) (by simp)) c1'.rds u57 u57 gJ h1 (by decide) (by show 2 * (0 + I.length) * 72 ≤ _; omega) (by omega) f ?_
    intro v' h' n' hn' f' l' hid hk
    simp only [aB, fgr, execOp, opd, aC, put, nth, aA, gB]
    rw [Nat.zero_add, List.nil_append] at l'
    refine ⟨⟨cells, l', c2⟩, fun j q => ?_, fun j hj => ?_⟩
    · rcases hid with w | ⟨w, w2⟩
      · rw [w] at q; injection q with q; subst q; exact ⟨Nat.le_refl _, by omega⟩
      · rw [w] at q; injection q with q; subst q; exact ⟨by omega, w2⟩
    · rw [hk j (by omega) (fun e => by injection e with e; omega), o j (by omega)]
theorem f26 (W : Nat → Prop) (h : Hp) (n : Nat) (hf : bK h n) (hw : ∀ j, W j → j < n) : Wp (aZ env (evalW env) 26 []) h n fun v' h' n' => ∃ s, v' = .ptr s 0 ∧ n ≤ s ∧ St (fun j => W j ∨ j = s) h' n' s [] [] ∧ Old h h' n := by
  refine bI ff26 fi26 ?_
  simp only [UE, Try.f26, Option.getD_some, List.replicate, aB, fgr, hkr, execOp, opd, bC, ofValue, aC, put, aA, aI, aD, ended, aP, aQ, Nat.reduceSub, gL, gI]
  refine bB hf (f40 h n hf) fun v1 h1 n1 hn1 f1 ⟨x, e1, hx, i1, o1⟩ => ?_
  subst e1
  have b59 : build env 59 [(0, .ptr x 0)] = M.pure (.agg [.ptr x 0, .nils]) := rfl
  simp only [aB, execOp, opd, dA, aC, put, nth, b59]
  refine dC (v := .agg [.ptr x 0, .nils]) HL rfl f1 fun H2 r2 o2 f2 => ?_
  simp only [aB, fgr, execOp, opd, aC, put, nth, aA, gB]
  replace r2 : Row H2 n1 [.ptr x 0, .nils] := r2
  have xlt := i1.xlt
  refine ⟨n1, rfl, by omega, ⟨x, .nils, r2, ⟨⟨_, _, i1.old (by omega) (fun j hj => o2 j (by omega)), fun j y => ⟨?_, fun w => ?_⟩, fun j y => ⟨?_, fun w => w⟩⟩, fun v hv => by cases hv⟩, .nil, (fun j y => by cases y), .inr rfl, fun j y => ?_⟩, fun j hj => by rw [o2 j (by omega), o1 j hj]⟩
  · rcases y with y | y
    · have := hw j y; omega
    · omega
  · rcases y with y | y
    · have := hw j y; omega
    · omega
  · rcases y with y | y
    · have := hw j y; omega
    · omega
  · rcases y with y | y
    · have := hw j y; omega
    · omega
theorem f24 {W : Nat → Prop} {h : Hp} {n s : Nat} {L : List Ver} {I : List Inf} (q : St W h n s L I) (hc : L.length ≤ 900000) (hf : bK h n) :
    Wp (aZ env (evalW env) 24 [.ptr s 0]) h n fun v' h' n' => VL h' n n' v' L ∧ Old h h' n := by
  obtain ⟨x, lv, r, i, l, a, b, c⟩ := q
  refine bI ff24 fi24 ?_
  simp only [UG, Try.f24, Option.getD_some, List.replicate, aB, fgr, hkr, execOp, opd, bC, ofValue, aC, put, nth, aA, aI, aD, ended, aP, aQ, Nat.reduceSub, gL, gI]
  refine dZ (f66 s x lv h n r) ?_
  simp only [aB, tyr, fgr, execOp, opd, aC, put, nth, aA, und, sizeOf, nilCheck, aV, aO, fieldAddr, gL, gI]
  rw [aN (r.one (off := 0) rfl pV rfl)]
  simp only [aB, hkr, execOp, opd, bC, aC, put, nth, aI, aD, gL]
  refine bB hf (ZD i.k hc hf) fun v1 h1 n1 hn1 f1 ⟨l1, o1⟩ => ?_
  simp only [aB, fgr, execOp, opd, aC, put, nth, aA, gB]
  exact ⟨l1, o1⟩
theorem NF (Q : eB) (ks : List Kf) (Y lv : a9) (c s x : Nat) (I : List Inf) (hc : I.length ≤ 1000000) (P : Nat → Hp → Nat → Prop) (R : Hp → Nat → Prop)
    (hP : ∀ k h n, P k h n → Row h c [.ptr s 0] ∧ Row h s [.ptr x 0, lv] ∧ IL h lv I ∧ bK h n)
    (hY : ∀ (k : Nat) (hk : k < I.length) (h : Hp) (n : Nat), P k h n → Wp (jA env (evalW env) Y [.agg (bP I[k])]) h n fun v' h' n' => (yes true v' ∧ P (k + 1) h' n') ∨ (yes false v' ∧ R h' n'))
    (hT : ∀ (h : Hp) (n : Nat) (tm : List a9), P I.length h n → dL env 102 none Q ks (.exit 0) tm h n)
    (hR : ∀ (h : Hp) (n : Nat) (tm : List a9), R h n → dL env 102 none Q ks .ret tm h n) :
    ∀ (m i : Nat) (h : Hp) (n : Nat) (x3 x10 x21 : a9), i + m = I.length → P i h n →
      Run env 102 none Q (.loop zI) ks (Y :: .ptr c 0 :: a9.junk :: x3 :: a9.junk :: a9.junk :: a9.junk :: a9.junk :: .int .i64 (I.length : Nat) :: .int .i64 (i : Nat) :: x10 :: a9.junk :: a9.junk :: a9.junk :: a9.junk :: a9.junk :: a9.junk :: a9.junk :: a9.junk :: a9.junk :: a9.junk :: x21 :: a9.junk :: []) h n := by
  intro m
  induction m with
  | zero =>
    intro i h n x3 x10 x21 hm hp
    have : i = I.length := by omega
    subst this
    rw [bZ]
    have hcc : ¬ (((I.length : Nat) : Int) < ((I.length : Nat) : Int)) := by omega
    simp only [zI, bO, Try.f102, Option.getD_some, aB, fgr, execOp, opd, aC, put, nth, aA, bor, aJ, aK, intOp, List.getD_cons_zero, hcc, gL, gB]
    exact hT h n _ hp
  | succ m ih =>
    intro i h n x3 x10 x21 hm hp
    obtain ⟨rc, rs, il, hf⟩ := hP i h n hp
    have hil : i < I.length := by omega
    have hcc : (((i : Nat) : Int) < ((I.length : Nat) : Int)) := by omega
    have w1 : IntKind.i64.wrap (((i : Nat) : Int) + 1) = ((i + 1 : Nat) : Int) := by rw [w64 (by omega) (by omega)]; omega
    have hYi := hY i hil
    obtain ⟨ok, hld⟩ := il.all (n := n) hil
    rw [bZ]
    simp only [zI, bO, Try.f102, Option.getD_some, aB, fgr, execOp, opd, aC, put, nth, aA, bor, aJ, aK, intOp, List.getD_cons_zero, hcc, gL, gB]
    rw [aN (rc.one (off := 0) rfl FC rfl)]
    simp only [aB, tyr, execOp, opd, aC, put, nth, und, sizeOf, nilCheck, aV, aO, fieldAddr, gL, gI]
    rw [aN (rs.one (off := 1) rfl qL rfl)]
    simp only [aB, execOp, opd, aC, put, nth]
    rw [aN (il.idx hil)]
    simp only [aB, execOp, opd, aC, put, nth]
    rw [aN hld]
    simp only [aB, execOp, opd, bC, aC, put, nth, aI]
    refine bB hf (hYi h n hp) fun v4 h4 n4 hn4 f4 hh => ?_
    rcases hh with ⟨e4 | e4, hp4⟩ | ⟨e4 | e4, hr4⟩
    · subst e4
      simp only [aB, fgr, execOp, opd, ofValue, aC, put, nth, aA, bor, aJ, aK, intOp, bR, unOp, w1, gB]
      exact ih (i + 1) h4 n4 _ _ _ (by omega) hp4
    · subst e4
      simp only [aB, fgr, execOp, opd, ofValue, aC, put, nth, aA, bor, aJ, aK, intOp, bR, unOp, w1, gB]
      exact ih (i + 1) h4 n4 _ _ _ (by omega) hp4
    · subst e4
      simp only [aB, fgr, execOp, opd, aC, put, nth, aA, unOp, gB]
      exact hR h4 n4 _ hr4
    · subst e4
      simp only [aB, fgr, execOp, opd, aC, put, nth, aA, unOp, gB]
      exact hR h4 n4 _ hr4
theorem f102 (Y lv : a9) (c s x : Nat) (I : List Inf) (h : Hp) (n : Nat) (hc : I.length ≤ 1000000) (P : Nat → Hp → Nat → Prop) (R : Hp → Nat → Prop) (h0 : P 0 h n)
    (hP : ∀ k h n, P k h n → Row h c [.ptr s 0] ∧ Row h s [.ptr x 0, lv] ∧ IL h lv I ∧ bK h n)
    (hY : ∀ (k : Nat) (hk : k < I.length) (h : Hp) (n : Nat), P k h n → Wp (jA env (evalW env) Y [.agg (bP I[k])]) h n fun v' h' n' => (yes true v' ∧ P (k + 1) h' n') ∨ (yes false v' ∧ R h' n')) :
    Wp (aZ env (evalW env) 102 [Y, .ptr c 0]) h n fun v' h' n' => v' = .tup [] ∧ (P I.length h' n' ∨ R h' n') := by
  obtain ⟨rc, rs, il, hf⟩ := hP 0 h n h0
  refine bI Z9 Y7 ?_
  simp only [K8, Try.f102, Option.getD_some, List.replicate, aB, execOp, opd, nth, ended, aP, aQ, Nat.reduceAdd, Nat.reduceSub, gL, gB, gI]
  rw [aN (rc.one (off := 0) rfl FC rfl)]
  simp only [aB, tyr, execOp, opd, aC, put, nth, und, sizeOf, nilCheck, aV, aO, fieldAddr, gL, gI]
  rw [aN (rs.one (off := 1) rfl qL rfl)]
  simp only [aB, fgr, execOp, opd, bC, ofValue, aC, put, nth, aA, aI, builtin, dB, il.len]
  refine NF _ _ Y lv c s x I hc P R hP hY ?_ ?_ I.length 0 h n _ _ _ (by omega) h0
  · intro h4 n4 tm p4
    simp only [aB, true_and]
    exact .inl p4
  · intro h4 n4 tm r4
    simp only [aB, true_and]
    exact .inr r4
theorem f72 (s : Nat) (h : Hp) (n : Nat) (hf : bK h n) : Wp (aZ env (evalW env) 72 [.ptr s 0]) h n fun v' h' n' => v' = .fn (.func 102) [] [.ptr n 0] ∧ Row h' n [.ptr s 0] ∧ (∀ j, j ≠ n → h' j = h j) ∧ n' = n + 1 := by
  refine bI ff72 fi72 ?_
  simp only [TR, Try.f72, Option.getD_some, List.replicate, aB, execOp, opd, nth, ended, aP, aQ, Nat.reduceSub, gL, gI]
  refine dC (v := .ptr s 0) FC rfl hf fun H1 r1 o1 f1 => ?_
  simp only [aB, fgr, execOp, opd, bC, ofValue, aC, put, nth, aA, gB]
  exact ⟨r1, o1⟩
def nE (I : List Inf) (z : Int) : Option Inf := I.find? fun i => decide (i.height = z)
theorem G8 {I : List Inf} {z : Int} (h : ∀ i (hi : i < I.length), I[i].height ≠ z) : nE I z = none := by
  unfold nE
  rw [List.find?_eq_none]
  intro i hi
  obtain ⟨k, hk, rfl⟩ := List.mem_iff_getElem.1 hi
  simpa using h k hk
theorem G7 {I : List Inf} {z : Int} {k : Nat} (hk : k < I.length) (h : ∀ i (hi : i < I.length), i < k → I[i].height ≠ z) (hz : I[k].height = z) : nE I z = some I[k] := by
  unfold nE
  rw [List.find?_eq_some_iff_getElem]
  exact ⟨by simpa using hz, k, hk, rfl, fun j hj => by simpa using h j (by omega) hj⟩
def AW (o : Option Inf) : Int := match o with
  | some _ => 0
  | none => 221
noncomputable def L25 (tm : List a9) : lN := { state := .ready, pending := none, fn := 25, tmps := tm, params := [14], assign := IB, body := I7 }
theorem fK : gR.block.length = 32 := rfl
theorem f25 {W : Nat → Prop} {h : Hp} {n s : Nat} {L : List Ver} {I : List Inf} (q : St W h n s L I) (z : Int) (hc : I.length ≤ 1000000) (hf : bK h n) :
    Wp (aZ env (evalW env) 25 [.ptr s 0, .int .i64 z]) h n fun v' h' n' => v' = .tup [.agg (bP ((nE I z).getD gR)), .int .i64 (AW (nE I z))] ∧ ((nE I z).getD gR).block.length = 32 ∧ Old h h' n := by
  obtain ⟨x, lv, r, i, il, a, b, c⟩ := q
  have sn := c s b
  refine bI ff25 fi25 ?_
  simp only [UF, Try.f25, Option.getD_some, List.replicate, aB, execOp, opd, nth, ended, aP, aQ, Nat.reduceAdd, Nat.reduceSub, gL, gI]
  refine dC (v := .int .i64 z) ti3 rfl hf fun H1 r1 o1 f1 => ?_
  replace r1 : Row H1 n [.int .i64 z] := r1
  simp only [aB, execOp, aC, put]
  rw [cG gJ rfl]
  obtain ⟨H2, hH2⟩ : ∃ H2, H2 = upd H1 (n + 1) (some (.row (.l (bP gR)) 61)) := ⟨_, rfl⟩
  have g2 : H2 (n + 1) = some (.row (.l (bP gR)) 61) := by rw [hH2, aU]
  have o2 : ∀ j, j ≠ n + 1 → H2 j = H1 j := fun j hj => by rw [hH2, aR _ _ hj]
  have f2 : bK H2 (n + 1 + 1) := by rw [hH2]; exact f1.new
  show Ops _ _ _ _ _ _ _ _ (upd H1 (n + 1) (some (.row (.l (bP gR)) 61))) _
  rw [← hH2]
  clear hH2
  have rs2 : Row H2 s [.ptr x 0, lv] := (r.aT (o1 s (by omega))).aT (o2 s (by omega))
  simp only [aB, fgr, hkr, execOp, opd, bC, ofValue, aC, put, nth, aA, aI, aD, gL]
  refine dZ (f66 s x lv H2 (n + 1 + 1) rs2) ?_
  simp only [aB, fgr, execOp, opd, aC, put, nth, aA]
  rw [cG gJ rfl]
  obtain ⟨H3, hH3⟩ : ∃ H3, H3 = upd H2 (n + 1 + 1) (some (.row (.l (bP gR)) 61)) := ⟨_, rfl⟩
  have g3 : H3 (n + 1 + 1) = some (.row (.l (bP gR)) 61) := by rw [hH3, aU]
  have o3 : ∀ j, j ≠ n + 1 + 1 → H3 j = H2 j := fun j hj => by rw [hH3, aR _ _ hj]
  have f3 : bK H3 (n + 1 + 1 + 1) := by rw [hH3]; exact f2.new
  show Ops _ _ _ _ _ _ _ _ (upd H2 (n + 1 + 1) (some (.row (.l (bP gR)) 61))) _
  rw [← hH3]
  clear hH3
  simp only [aB, fgr, execOp, aC, put, aA]
  rw [cG FB rfl]
  simp only [aB, execOp, opd, ofValue, aC, put, nth, cel]
  refine dW (v := .int .i64 221) FB rfl rfl rfl f3 fun H4 r4 o4 f4 => ?_
  replace r4 : Row H4 (n + 1 + 1 + 1) [.int .i64 221] := r4
  simp only [aB, fgr, hkr, execOp, opd, bC, aC, put, nth, aA, aI, aD, gL]
  refine bB f4 (f72 s H4 (n + 1 + 1 + 1 + 1) f4) fun v5 h5 n5 hn5 f5 ⟨e5, r5, o5, en5⟩ => ?_
  subst e5; subst en5
  simp only [aB, fgr, aC, put, aA]
  refine mC (g := 102) (first := []) (cap := [.ptr (n + 1 + 1 + 1 + 1) 0]) rfl rfl ?_
  let TM : List a9 := (.ptr s 0 :: .int .i64 z :: a9.junk :: .ptr n 0 :: .ptr (n + 1) 0 :: .int .i64 0 :: .ptr (n + 1 + 1) 0 :: .ptr (n + 1 + 1 + 1) 0 :: undef :: a9.junk :: .bool false :: a9.junk :: a9.junk :: .fn (.func 102) [] [.ptr (n + 1 + 1 + 1 + 1) 0] :: undef :: a9.junk :: a9.junk :: a9.junk :: undef :: a9.junk :: a9.junk :: a9.junk :: [])
  obtain ⟨H7, hH7⟩ : ∃ H7, H7 = upd h5 (n + 1 + 1 + 1 + 1 + 1) (some (Blk.loop (L25 TM))) := ⟨_, rfl⟩
  show Wp (bT env (evalW env) 102 [a9.fn (Fn.yield (n + 1 + 1 + 1 + 1 + 1)) [] [], a9.ptr (n + 1 + 1 + 1 + 1) 0]) (upd h5 (n + 1 + 1 + 1 + 1 + 1) (some (Blk.loop (L25 TM)))) (n + 1 + 1 + 1 + 1 + 1 + 1) _
  rw [OW, ← hH7]
  have f7 : bK H7 (n + 1 + 1 + 1 + 1 + 1 + 1) := by rw [hH7]; exact f5.new
  have o7 : ∀ j, j ≠ n + 1 + 1 + 1 + 1 + 1 → H7 j = h5 j := fun j hj => by rw [hH7, aR _ _ hj]
  have g7 : H7 (n + 1 + 1 + 1 + 1 + 1) = some (.loop (L25 TM)) := by rw [hH7, aU]
  clear hH7
  have old7 : ∀ j, j < n → H7 j = h j := fun j hj => by rw [o7 j (by omega), o5 j (by omega), o4 j (by omega), o3 j (by omega), o2 j (by omega), o1 j (by omega)]
  have z7 : Row H7 n [.int .i64 z] := ((((r1.aT (o2 _ (by omega))).aT (o3 _ (by omega))).aT (o4 _ (by omega))).aT (o5 _ (by omega))).aT (o7 _ (by omega))
  have b7 : H7 (n + 1) = some (.row (.l (bP gR)) 61) := by rw [o7 _ (by omega), o5 _ (by omega), o4 _ (by omega), o3 _ (by omega)]; exact g2
  have c7 : H7 (n + 1 + 1) = some (.row (.l (bP gR)) 61) := by rw [o7 _ (by omega), o5 _ (by omega), o4 _ (by omega)]; exact g3
  have d7 : Row H7 (n + 1 + 1 + 1) [.int .i64 221] := (r4.aT (o5 _ (by omega))).aT (o7 _ (by omega))
  have s7 : Row H7 (n + 1 + 1 + 1 + 1) [.ptr s 0] := r5.aT (o7 _ (by omega))
  have rs7 : Row H7 s [.ptr x 0, lv] := r.aT (old7 s sn)
  have il7 : IL H7 lv I := il.aT fun j y => old7 j (a j y).1
  refine wp_mono (f102 (.fn (.yield (n + 1 + 1 + 1 + 1 + 1)) [] []) lv (n + 1 + 1 + 1 + 1) s x I H7 (n + 1 + 1 + 1 + 1 + 1 + 1) hc
    (fun k h1 n1 => bK h1 n1 ∧ n + 1 + 1 + 1 + 1 + 1 + 1 ≤ n1 ∧ h1 (n + 1 + 1 + 1 + 1 + 1) = some (.loop (L25 TM)) ∧ (∀ j, j < n + 1 + 1 + 1 + 1 + 1 → h1 j = H7 j) ∧ ∀ i (hi : i < I.length), i < k → I[i].height ≠ z)
    (fun h1 n1 => ∃ (l : lN) (k : Nat) (hk : k < I.length), h1 (n + 1 + 1 + 1 + 1 + 1) = some (.loop l) ∧ l.state = .done ∧ l.pending = some (.exit 0) ∧ (∀ i (hi : i < I.length), i < k → I[i].height ≠ z) ∧ I[k].height = z ∧ I[k].block.length = 32 ∧ Row h1 (n + 1 + 1) (bP I[k]) ∧ Row h1 (n + 1 + 1 + 1) [.int .i64 0] ∧ ∀ j, j < n + 1 + 1 → h1 j = H7 j)
    ⟨f7, Nat.le_refl _, g7, fun j _ => rfl, fun i _ q => by omega⟩ ?_ ?_) ?_
  · rintro k h1 n1 ⟨q1, q2, q3, q4, q5⟩
    exact ⟨s7.aT (q4 _ (by omega)), rs7.aT (q4 s (by omega)), il7.aT fun j y => q4 j (by have := (a j y).1; omega), q1⟩
  · rintro k hk h1 n1 ⟨q1, q2, q3, q4, q5⟩
    obtain ⟨bok, _⟩ := il7.all (n := n1) hk
    have hdec : ∀ i (hi : i < I.length), i < k → I[i].height ≠ z := q5
    have hnx : ∀ i (hi : i < I.length), I[k].height ≠ z → i < k + 1 → I[i].height ≠ z := fun i hi hne hlt => by
      by_cases e : i = k
      · subst e; exact hne
      · exact q5 i hi (by omega)
    refine nG q3 rfl rfl ?_
    simp only [IB, List.getD_cons_zero, lW, List.zip_cons_cons, List.zip_nil_left, L25, TM, cS, Try.f25, Option.getD_some, aB, execOp, put, gL]
    rw [cG gJ rfl]
    simp only [aB, execOp, opd, aC, put, nth, cel]
    refine dW (v := .agg (bP I[k])) gJ rfl (bW bok) (fA _) q1 fun H8 r8 o8 f8 => ?_
    replace r8 : Row H8 n1 (bP I[k]) := r8
    have g8 : H8 (n + 1 + 1 + 1 + 1 + 1) = some (.loop (L25 TM)) := (o8 _ (by omega)).trans q3
    simp only [aB, fgr, aC, aA, true_and]
    refine ⟨_, g8, rfl, ?_⟩
    obtain ⟨h9, hh9⟩ : ∃ h9, h9 = upd H8 (n + 1 + 1 + 1 + 1 + 1) (some (Blk.loop { L25 TM with state := .busy })) := ⟨_, rfl⟩
    have o9 : ∀ j, j ≠ n + 1 + 1 + 1 + 1 + 1 → h9 j = H8 j := fun j hj => by rw [hh9, aR _ _ hj]
    have g9 : h9 (n + 1 + 1 + 1 + 1 + 1) = some (.loop { L25 TM with state := .busy }) := by rw [hh9, aU]
    have f9 : bK h9 (n1 + 1) := by rw [hh9]; exact f8.upd (by omega)
    show Run env 25 _ _ _ _ _ (upd H8 (n + 1 + 1 + 1 + 1 + 1) (some (Blk.loop { L25 TM with state := .busy }))) (n1 + 1)
    rw [← hh9]
    clear hh9
    have to7 : ∀ j, j < n + 1 + 1 + 1 + 1 + 1 → h9 j = H7 j := fun j hj => by rw [o9 j (by omega), o8 j (by omega), q4 j hj]
    have r9 : Row h9 n1 (bP I[k]) := r8.aT (o9 _ (by omega))
    simp only [I7, List.getD_cons_zero, cS, Try.f25, Option.getD_some, aB, tyr, fgr, execOp, opd, aC, put, nth, und, sizeOf, aV, aO, fieldAddr, gL, gI]
    rw [aN (Row.one (off := 0) r9 (x := .int .i64 I[k].height) rfl ti3 rfl)]
    simp only [aB, execOp, opd, aC, put, nth]
    rw [aN ((z7.aT (to7 n (by omega))).one (off := 0) rfl ti3 rfl)]
    by_cases hz : I[k].height = z
    · simp only [aB, fgr, execOp, opd, aC, put, nth, aA, bor, aJ, aK, intOp, beq_self_eq_true, hz, gB]
      rw [aN (Row.whole r9 gJ rfl (bW bok))]
      simp only [aB, execOp, opd, aC, put, nth]
      rw [eC (Row.write (v := .agg (bP I[k])) ((to7 (n + 1 + 1) (by omega)).trans c7) gJ (bW bok) (by rw [bW fK]; show 0 + 37 ≤ 37; omega) (fA _))]
      rw [eN (by show (bP I[k]).length = _; rw [bW bok, bW fK])]
      obtain ⟨hX, hhX⟩ : ∃ hX, hX = upd h9 (n + 1 + 1) (some (.row (.l (bP I[k])) 61)) := ⟨_, rfl⟩
      show Ops _ _ _ _ _ _ _ _ (upd h9 (n + 1 + 1) (some (.row (.l (bP I[k])) 61))) _
      rw [← hhX]
      have oX : ∀ j, j ≠ n + 1 + 1 → hX j = h9 j := fun j hj => by rw [hhX, aR _ _ hj]
      have rX : Row hX (n + 1 + 1) (bP I[k]) := ⟨61, by rw [hhX, aU]⟩
      clear hhX
      simp only [aB, execOp, opd, ofValue, aC, nth]
      obtain ⟨e0, hr7⟩ := d7
      have hr7' : hX (n + 1 + 1 + 1) = some (.row (.l [.int .i64 221]) e0) := by rw [oX _ (by omega), to7 _ (by omega)]; exact hr7
      rw [eC (Row.write (v := .int .i64 0) hr7' FB rfl (by show 0 + 1 ≤ 1; omega) rfl)]
      obtain ⟨hA, hhA⟩ : ∃ hA, hA = upd hX (n + 1 + 1 + 1) (some (.row (.l [.int .i64 0]) e0)) := ⟨_, rfl⟩
      show Ops _ _ _ _ _ _ _ _ (upd hX (n + 1 + 1 + 1) (some (.row (.l [.int .i64 0]) e0))) _
      rw [← hhA]
      have gA : hA (n + 1 + 1 + 1 + 1 + 1) = some (.loop { L25 TM with state := .busy }) := by rw [hhA, aR _ _ (by omega), oX _ (by omega)]; exact g9
      have iA : Row hA (n + 1 + 1) (bP I[k]) := rX.aT (by rw [hhA, aR _ _ (by omega)])
      have eA : Row hA (n + 1 + 1 + 1) [.int .i64 0] := ⟨e0, by rw [hhA, aU]⟩
      have oA : ∀ j, j < n + 1 + 1 → hA j = H7 j := fun j hj => by rw [hhA, aR _ _ (by omega), oX _ (by omega), to7 j (by omega)]
      clear hhA
      simp only [aB, bE, fgr, aC, aA]
      exact ⟨_, gA, .inr ⟨.inl rfl, _, k, hk, aU _ _ _, rfl, rfl, hdec, hz, bok, iA.upd (by omega), eA.upd (by omega), fun j hj => by rw [aR _ _ (by omega), oA j hj]⟩⟩
    · simp only [aB, fgr, execOp, opd, aC, put, nth, aA, bor, aJ, aK, intOp, hz, gB, gI]
      exact ⟨_, g9, .inl ⟨.inl rfl, f9.upd (by omega), by omega, aU _ _ _, fun j hj => by rw [aR _ _ (by omega), to7 j hj], fun i hi hlt => hnx i hi hz hlt⟩⟩
  · rintro v5 h5' n5' ⟨e5, hh⟩
    rcases hh with ⟨q1, q2, q3, q4, q5⟩ | ⟨l, k, hk, q1, q2, q3, q4, q5, q6, q7, q8, q9⟩
    · refine ⟨_, q3, (fun q => by cases q), .normal, rfl, ?_⟩
      have hI : nE I z = none := G8 fun i hi => q5 i hi hi
      rw [hI]
      obtain ⟨hB, hhB⟩ : ∃ hB, hB = upd h5' (n + 1 + 1 + 1 + 1 + 1) (some (Blk.loop { L25 TM with state := .exhausted })) := ⟨_, rfl⟩
      have oB : ∀ j, j < n + 1 + 1 + 1 + 1 + 1 → hB j = H7 j := fun j hj => by rw [hhB, aR _ _ (by omega), q4 j hj]
      show dL env 25 _ _ _ _ _ (upd h5' (n + 1 + 1 + 1 + 1 + 1) (some (Blk.loop { L25 TM with state := .exhausted }))) _
      rw [← hhB]
      clear hhB
      have rI : Row hB (n + 1 + 1) (bP gR) := ⟨61, (oB _ (by omega)).trans c7⟩
      have rE : Row hB (n + 1 + 1 + 1) [.int .i64 221] := d7.aT (oB _ (by omega))
      have rB : hB (n + 1) = some (.row (.l (bP gR)) 61) := (oB _ (by omega)).trans b7
      simp only [aB]
      refine cB ⟨rfl, ?_⟩
      simp only [aF, execOp, opd, nth]
      rw [bL (Row.whole rI gJ rfl (bW fK))]
      simp only [aF, execOp, opd, aC, put, nth, gI]
      rw [bL (rE.one (off := 0) rfl FB rfl)]
      simp only [aF, execOp, opd, aC, put, nth, Nat.reduceAdd]
      refine kA (Row.write (v := .agg (bP gR)) rB gJ (bW fK) (by rw [bW fK]; show 0 + 37 ≤ 37; omega) (fA _)) ?_
      rw [eN (by rfl)]
      simp only [bS, aF, aH, aB, fgr, execOp, opd, aC, put, nth, aA, cel, Nat.reduceAdd, gB]
      refine ⟨(by (try simp (disch := first | assumption | omega) only [cV, List.all_cons, List.all_nil, gB, gF]); repeat' (first | rfl | exact (Bool.or_eq_true _ _).mpr (.inr rfl) | refine (Bool.and_eq_true _ _).mpr ⟨?_, ?_⟩)), ?_⟩
      refine eV (Row.whole (cs := bP gR) ⟨61, aU _ _ _⟩ gJ rfl (bW fK)) (wp_pure.2 ?_)
      exact ⟨rfl, fK, fun j hj => by rw [aR _ _ (by omega), oB j (by omega), old7 j hj]⟩
    · refine ⟨_, q1, (fun q => by rw [q2] at q; cases q), .exit 0, by rw [q3], ?_⟩
      have hI : nE I z = some I[k] := G7 hk q4 q5
      rw [hI]
      obtain ⟨hB, hhB⟩ : ∃ hB, hB = upd h5' (n + 1 + 1 + 1 + 1 + 1) (some (Blk.loop { l with state := .exhausted })) := ⟨_, rfl⟩
      have oB : ∀ j, j ≠ n + 1 + 1 + 1 + 1 + 1 → hB j = h5' j := fun j hj => by rw [hhB, aR _ _ hj]
      show dL env 25 _ _ _ _ _ (upd h5' (n + 1 + 1 + 1 + 1 + 1) (some (Blk.loop { l with state := .exhausted }))) _
      rw [← hhB]
      clear hhB
      have rI : Row hB (n + 1 + 1) (bP I[k]) := q7.aT (oB _ (by omega))
      have rE : Row hB (n + 1 + 1 + 1) [.int .i64 0] := q8.aT (oB _ (by omega))
      have rB : hB (n + 1) = some (.row (.l (bP gR)) 61) := by rw [oB _ (by omega), q9 _ (by omega)]; exact b7
      simp only [aB]
      refine cB ⟨rfl, ?_⟩
      simp only [aF, execOp, opd, nth]
      rw [bL (Row.whole rI gJ rfl (bW q6))]
      simp only [aF, execOp, opd, aC, put, nth, gI]
      rw [bL (rE.one (off := 0) rfl FB rfl)]
      simp only [aF, execOp, opd, aC, put, nth, Nat.reduceAdd]
      refine kA (Row.write (v := .agg (bP I[k])) rB gJ (bW q6) (by rw [bW fK]; show 0 + 37 ≤ 37; omega) (fA _)) ?_
      rw [eN (by show (bP I[k]).length = _; rw [bW q6, bW fK])]
      simp only [bS, aF, aH, aB, fgr, execOp, opd, aC, put, nth, aA, cel, Nat.reduceAdd, gB]
      refine ⟨(by (try simp (disch := first | assumption | omega) only [cV, List.all_cons, List.all_nil, gB, gF]); repeat' (first | rfl | exact (Bool.or_eq_true _ _).mpr (.inr rfl) | refine (Bool.and_eq_true _ _).mpr ⟨?_, ?_⟩)), ?_⟩
      refine eV (Row.whole (cs := bP I[k]) ⟨61, aU _ _ _⟩ gJ rfl (bW q6)) (wp_pure.2 ?_)
      exact ⟨rfl, q6, fun j hj => by rw [aR _ _ (by omega), oB j (by omega), q9 j (by omega), old7 j hj]⟩
section
variable {E : Env} {fn : FuncId} {rnd : Option Nat} {Q : eB} {ks : List Kf} {tm : List a9} {h : Hp} {n : Nat} {ops rest : List Oper} {d : Option Tmp}
theorem GI {j : Nat} {fs : List fN} {t : TypeId} {i : TI} (hi : ti E t = M.pure i) (hj : dT i.zero = false) (hf : bK h n)
    (hq : ∀ H, H n = some (.row (.l i.zero.cells) t) → (∀ k, k ≠ n → H k = h k) → bK H (n + 1) → Fe E fn rnd Q ks ops (j + 1) rest (aC tm d (.ptr n 0)) (⟨j, [], [], n, n + 1⟩ :: fs) H (n + 1)) : FeV E fn rnd Q ks ops j rest d tm fs (cF E t) h n := by
  simp only [cF, zeroOf, hi, bind_pure, alloc, hj]
  exact jX hi hf hq
theorem IW (hf : bK h n) : only (fun j => decide (j < n)) h = h := funext fun j => by
  by_cases c : j < n
  · exact gM (decide_eq_true c)
  · rw [hf j (by omega)]
    exact mG (decide_eq_false c)
theorem NU {j : Nat} {fs : List fN} {m : M a9} {Q1 : a9 → Hp → Nat → Prop} (hf : bK h n) (hw : Wp m h n Q1)
    (hq : ∀ v h' n' r w, n ≤ n' → bK h' n' → Q1 v h' n' → (∀ id, id ∈ r → id < n) → (∀ id, id ∈ w → id < n) → Fe E fn rnd Q ks ops (j + 1) rest (aC tm d v) (⟨j, r, w, n, n'⟩ :: fs) h' n') : FeV E fn rnd Q ks ops j rest d tm fs m h n := by
  refine vM (fun j => decide (j < n)) hf (Q0 := Q1) (by rw [IW hf]; exact hw) fun v h' n' r w hr hn hf' q h1 h2 h3 h4 => ?_
  have e : h' = hr := funext fun k => h1 k (by
    by_cases c : k < n
    · exact .inl (decide_eq_true c)
    · exact .inr (by omega))
  rw [← e] at q
  exact hq v h' n' r w hn hf' q (fun id hi => of_decide_eq_true (h3 id hi)) (fun id hi => of_decide_eq_true (h4 id hi))
end
def wQ (z : Int) : Int := IntKind.u64.wrap z
def rH (v : Ver) (L : List Ver) : Bool := tP v || L.any fun w => decide (fB w v = 0)
def mD (L0 : List Ver) (tip : Int) : List Ver → List Ver → Int → Option (List Ver × Int)
  | [], L, t => some (L, t)
  | v :: vs, L, t => if (atV L0 v.hash v.pn tip).isSome || rH v L then none else mD L0 tip vs (mE L v) (wQ (t + wQ v.value))
def mM (z : Int) : List Spd → List Ver → Int → Option (List Ver × Int)
  | [], L, t => some (L, t)
  | p :: ps, L, t => match atV L p.hash p.pn z with
    | none => none
    | some w => if decide (w.spent = 0) && decide (1 ≤ z) && decide (w.made ≤ z) then mM z ps (pK L w (iR w z p.by_)) (wQ (t - wQ w.value)) else none
theorem y9 {v : Ver} {L : List Ver} : rH v L = true ↔ zO v L := by
  unfold rH zO
  rw [Bool.or_eq_true, List.any_eq_true]
  constructor
  · rintro (h | ⟨a, h1, h2⟩)
    · exact .inl h
    · exact .inr ⟨a, h1, of_decide_eq_true h2⟩
  · rintro (h | ⟨a, h1, h2⟩)
    · exact .inl h
    · exact .inr ⟨a, h1, decide_eq_true h2⟩
theorem J6 (Q : eB) (ks : List Kf) (W K T : Nat → Prop) (s y c a b : Nat) (A : App) (mv sv : a9) (L0 : List Ver) (I : List Inf) (RES : Option (List Ver × Int)) (h0 : Hp) (n0 : Nat) (hKn : ∀ j, K j → j < n0) (hcK : K c)
    (hSt : ∀ h n, n0 ≤ n → (∀ j, K j → h j = h0 j) → St W h n s L0 I) (hAp : ∀ h, (∀ j, K j → h j = h0 j) → jD h a b A mv sv) (hb : b ≤ n0) (hrc : Row h0 c (bH A mv sv))
    (hpn : ∀ v ∈ A.made, 0 ≤ v.pn) (hsl : ∀ v ∈ A.made, v.script.length ≤ 1000000) (hI : I.length ≤ 1000000) (hL0 : L0.length ≤ 900000)
    (hT : ∀ (h : Hp) (n : Nat) (L : List Ver) (t : Int) (x2 x11 x13 x15 x16 x17 x22 x43 x51 x52 x53 x54 x80 : a9), RES = some (L, t) → (∀ j, K j → h j = h0 j) → Ixw K T h n y L → L.length ≤ 900000 → n0 ≤ n → bK h n →
      dL env 69 none Q ks (.exit 0) (.ptr s 0 :: .ptr y 0 :: x2 :: .int .u64 t :: a9.junk :: a9.junk :: .ptr c 0 :: a9.junk :: .int .u64 0 :: .bool false :: a9.junk :: x11 :: a9.junk :: x13 :: a9.junk :: x15 :: x16 :: x17 :: a9.junk :: mv :: .int .i64 (A.made.length : Nat) :: .int .i64 (A.made.length : Nat) :: x22 :: a9.junk :: a9.junk :: a9.junk :: a9.junk :: a9.junk :: a9.junk :: a9.junk :: a9.junk :: a9.junk :: a9.junk :: a9.junk :: a9.junk :: a9.junk :: a9.junk :: a9.junk :: a9.junk :: a9.junk :: a9.junk :: a9.junk :: a9.junk :: x43 :: a9.junk :: a9.junk :: a9.junk :: a9.junk :: a9.junk :: a9.junk :: a9.junk :: x51 :: x52 :: x53 :: x54 :: a9.junk :: a9.junk :: a9.junk :: a9.junk :: a9.junk :: a9.junk :: a9.junk :: a9.junk :: a9.junk :: a9.junk :: a9.junk :: a9.junk :: a9.junk :: a9.junk :: a9.junk :: a9.junk :: a9.junk :: a9.junk :: a9.junk :: a9.junk :: a9.junk :: a9.junk :: a9.junk :: a9.junk :: a9.junk :: x80 :: a9.junk :: a9.junk :: a9.junk :: a9.junk :: a9.junk :: a9.junk :: a9.junk :: []) h n)
    (hR : ∀ (h : Hp) (n : Nat) (x0 x1 x2 x3 x6 x11 x13 x15 x16 x17 x19 x20 x21 x22 x43 x51 x52 x53 x54 x80 : a9), RES = none → (∀ j, K j → h j = h0 j) → dL env 69 none Q ks .ret (x0 :: x1 :: x2 :: x3 :: a9.junk :: a9.junk :: x6 :: a9.junk :: .int .u64 0 :: .bool false :: a9.junk :: x11 :: a9.junk :: x13 :: a9.junk :: x15 :: x16 :: x17 :: a9.junk :: x19 :: x20 :: x21 :: x22 :: a9.junk :: a9.junk :: a9.junk :: a9.junk :: a9.junk :: a9.junk :: a9.junk :: a9.junk :: a9.junk :: a9.junk :: a9.junk :: a9.junk :: a9.junk :: a9.junk :: a9.junk :: a9.junk :: a9.junk :: a9.junk :: a9.junk :: a9.junk :: x43 :: a9.junk :: a9.junk :: a9.junk :: a9.junk :: a9.junk :: a9.junk :: a9.junk :: x51 :: x52 :: x53 :: x54 :: a9.junk :: a9.junk :: a9.junk :: a9.junk :: a9.junk :: a9.junk :: a9.junk :: a9.junk :: a9.junk :: a9.junk :: a9.junk :: a9.junk :: a9.junk :: a9.junk :: a9.junk :: a9.junk :: a9.junk :: a9.junk :: a9.junk :: a9.junk :: a9.junk :: a9.junk :: a9.junk :: a9.junk :: a9.junk :: x80 :: a9.junk :: a9.junk :: a9.junk :: a9.junk :: a9.junk :: a9.junk :: a9.junk :: []) h n) :
    ∀ (m i : Nat) (h : Hp) (n : Nat) (L : List Ver) (t : Int) (x2 x11 x13 x15 x16 x17 x22 x43 x51 x52 x53 x54 x80 : a9), i + m = A.made.length → mD L0 (((I.length : Nat) : Int) - 1) (A.made.drop i) L t = RES → (∀ j, K j → h j = h0 j) → Ixw K T h n y L → L.length + m ≤ 900000 → n0 ≤ n → bK h n →
      Run env 69 none Q (.loop CP) ks (.ptr s 0 :: .ptr y 0 :: x2 :: .int .u64 t :: a9.junk :: a9.junk :: .ptr c 0 :: a9.junk :: .int .u64 0 :: .bool false :: a9.junk :: x11 :: a9.junk :: x13 :: a9.junk :: x15 :: x16 :: x17 :: a9.junk :: mv :: .int .i64 (A.made.length : Nat) :: .int .i64 (i : Nat) :: x22 :: a9.junk :: a9.junk :: a9.junk :: a9.junk :: a9.junk :: a9.junk :: a9.junk :: a9.junk :: a9.junk :: a9.junk :: a9.junk :: a9.junk :: a9.junk :: a9.junk :: a9.junk :: a9.junk :: a9.junk :: a9.junk :: a9.junk :: a9.junk :: x43 :: a9.junk :: a9.junk :: a9.junk :: a9.junk :: a9.junk :: a9.junk :: a9.junk :: x51 :: x52 :: x53 :: x54 :: a9.junk :: a9.junk :: a9.junk :: a9.junk :: a9.junk :: a9.junk :: a9.junk :: a9.junk :: a9.junk :: a9.junk :: a9.junk :: a9.junk :: a9.junk :: a9.junk :: a9.junk :: a9.junk :: a9.junk :: a9.junk :: a9.junk :: a9.junk :: a9.junk :: a9.junk :: a9.junk :: a9.junk :: a9.junk :: x80 :: a9.junk :: a9.junk :: a9.junk :: a9.junk :: a9.junk :: a9.junk :: a9.junk :: []) h n := by
  intro m
  induction m with
  | zero =>
    intro i h n L t x2 x11 x13 x15 x16 x17 x22 x43 x51 x52 x53 x54 x80 hm hres hk hy hl hn hf
    have : i = A.made.length := by omega
    subst this
    rw [List.drop_length] at hres
    rw [bZ]
    have hcc : ¬ (((A.made.length : Nat) : Int) < ((A.made.length : Nat) : Int)) := by omega
    simp only [CP, bO, Try.f69, Option.getD_some, aB, fgr, execOp, opd, aC, put, nth, aA, bor, aJ, aK, intOp, List.getD_cons_zero, hcc, gL, gB]
    exact hT h n L t _ _ _ _ _ _ _ _ _ _ _ _ _ hres.symm hk hy (by omega) hn hf
  | succ m ih =>
    intro i h n L t x2 x11 x13 x15 x16 x17 x22 x43 x51 x52 x53 x54 x80 hm hres hk hy hl hn hf
    have ha := hAp h hk
    have hil : i < A.made.length := by omega
    have hcc : (((i : Nat) : Int) < ((A.made.length : Nat) : Int)) := by omega
    have w1 : IntKind.i64.wrap (((i : Nat) : Int) + 1) = ((i + 1 : Nat) : Int) := by rw [w64 (by omega) (by have := ha.ml; omega)]; omega
    obtain ⟨sw, va⟩ := ha.m.at_ hil
    rw [← List.getElem_cons_drop hil] at hres
    have hvm := List.getElem_mem hil
    have hpv := hpn _ hvm
    have hsv := hsl _ hvm
    generalize A.made[i] = v at *
    rw [bZ]
    simp only [CP, bO, Try.f69, Option.getD_some, aB, fgr, execOp, opd, aC, put, nth, aA, bor, aJ, aK, intOp, List.getD_cons_zero, hcc, gL, gB]
    rw [aN (ha.m.idx hil)]
    simp only [aB, execOp, opd, aC, put, nth]
    rw [aN (va.all n)]
    simp only [aB, execOp, aC, put]
    rw [cG eX rfl]
    simp only [aB, execOp, opd, aC, put, nth, cel]
    have kd := va.s.kind
    refine dW (v := .agg (aS v sw)) eX rfl (bV va.ok.h va.ok.b) (dV kd.2.1) hf fun H1 r1 p1 f1 => ?_
    replace r1 : Row H1 n (aS v sw) := r1
    have O1 : Old h H1 n := fun j hj => p1 j (by omega)
    have k1 : ∀ j, K j → H1 j = h0 j := fun j q => by rw [p1 j (by have := hKn j q; omega)]; exact hk j q
    have y1 := hy.grow (n' := n + 1) (by omega) O1
    have s1 := hSt H1 (n + 1) (by omega) k1
    obtain ⟨x, lv, rs, ix, il, sa, sb, sc⟩ := s1
    simp only [aB, fgr, aC, aA]
    refine cB ⟨rfl, ?_⟩
    simp only [aF, aH, aB, tyr, execOp, opd, aC, put, nth, und, sizeOf, nilCheck, aV, aO, fieldAddr, Nat.reduceAdd, gL, gI]
    rw [bL (rs.one (off := 0) rfl pV rfl)]
    simp only [aF, aH, aB, tyr, execOp, opd, aC, put, nth, und, sizeOf, aV, aO, fieldAddr, Nat.reduceAdd, gL, gI]
    rw [bL (iC r1 va.ok)]
    simp only [aF, aH, hkr, execOp, opd, bC, aC, put, nth, aI, aD, Nat.reduceAdd, gL]
    rw [bL (MJ s x lv I H1 (n + 1) rs il hI)]
    simp only [aF, hkr, execOp, opd, bC, aC, put, nth, aI, aD, Nat.reduceAdd, gL]
    refine NU f1 (ZC v.hash v.pn (((I.length : Nat) : Int) - 1) va.ok.h ix.k hL0 f1) fun v3 h3 n3 rr3 ww3 hn3 f3 ⟨o3, sA, e3, okA, bA, iA⟩ qr3 qw3 => ?_
    subst e3
    have csn : s < n3 := by have := sc s sb; omega
    have cr0 : ∀ id, id ∈ [s] → id < n3 ∨ n3 + 1 ≤ id := fun id q => by rw [List.mem_singleton] at q; omega
    have cr1 : ∀ id, id ∈ [n] → id < n3 ∨ n3 + 1 ≤ id := fun id q => by rw [List.mem_singleton] at q; omega
    have cr2 : ∀ id, id ∈ ([] : List Nat) → id < n3 ∨ n3 + 1 ≤ id := fun id q => by cases q
    have cr3 : ∀ id, id ∈ rr3 → id < n3 ∨ n3 + 1 ≤ id := fun id q => .inl (by have := qr3 id q; omega)
    have cw3 : ∀ id, id ∈ ww3 → id < n3 ∨ n3 + 1 ≤ id := fun id q => .inl (by have := qw3 id q; omega)
    simp only [aF, aH, execOp, opd, aC, put, nth, extract, aV, Nat.reduceAdd, gL]
    refine GI eX rfl f3 fun H4 r4 o4 f4 => ?_
    simp only [aF, execOp, opd, aC, put, nth, Nat.reduceAdd]
    refine kA (Row.write (v := .agg (aS ((atV L0 v.hash v.pn (((I.length : Nat) : Int) - 1)).getD noV) sA)) r4 eX (bV okA.h okA.b) (by show 0 + 70 ≤ 70; omega) (dV bA.kind.2.1)) ?_
    obtain ⟨H5, hH5⟩ : ∃ H5, H5 = upd H4 n3 (some (.row (.l (bX fD.i.zero.cells 0 (a9.agg (aS ((atV L0 v.hash v.pn (((I.length : Nat) : Int) - 1)).getD noV) sA)).cells)) 31)) := ⟨_, rfl⟩
    show Fe _ _ _ _ _ _ _ _ _ _ (upd H4 n3 (some (.row (.l (bX fD.i.zero.cells 0 (a9.agg (aS ((atV L0 v.hash v.pn (((I.length : Nat) : Int) - 1)).getD noV) sA)).cells)) 31))) _
    rw [← hH5]
    have o5 : ∀ j, j ≠ n3 → H5 j = h3 j := fun j hj => by rw [hH5, aR _ _ hj, o4 j hj]
    have f5 : bK H5 (n3 + 1) := by rw [hH5]; exact f4.upd (by omega)
    clear hH5
    simp only [bS, aF, aH, aB, fgr, execOp, opd, aC, put, nth, aA, Nat.reduceAdd, gL]
    refine ⟨(by (try simp (disch := first | assumption | omega) only [cV, List.all_cons, List.all_nil, gB, gF]); repeat' (first | rfl | exact (Bool.or_eq_true _ _).mpr (.inr rfl) | refine (Bool.and_eq_true _ _).mpr ⟨?_, ?_⟩)), ?_⟩
    have k5 : ∀ j, K j → H5 j = h0 j := fun j q => by have := hKn j q; rw [o5 j (by omega), o3 j (by omega)]; exact k1 j q
    have O5 : Old H1 H5 (n + 1) := fun j hj => by rw [o5 j (by omega), o3 j hj]
    have y5 := y1.old (n' := n3 + 1) (by omega) O5
    have r5 : Row H5 n (aS v sw) := r1.aT (O5 n (by omega))
    have b5 : Bytes H5 sw v.script := va.s.aT fun j q => by have := va.sn j q; rw [O5 j (by omega), O1 j (by omega)]
    cases hat : (atV L0 v.hash v.pn (((I.length : Nat) : Int) - 1)).isSome with
    | true =>
      have hnone : RES = none := by rw [← hres, mD, hat]; rfl
      simp only [aB, fgr, execOp, opd, ofValue, aC, put, nth, aA, aW, branch, gL]
      exact hR _ _ _ _ _ _ _ _ _ _ _ _ _ _ _ _ _ _ _ _ _ _ hnone k5
    | false =>
    simp only [aB, execOp, opd, aC, put, nth, gL]
    rw [aN (fS r5 va.ok)]
    simp only [aB, hkr, execOp, opd, bC, aC, put, nth, aI, aD, gL]
    refine bB f5 (f33w v sw va.ok hpv hsv y5 b5 (fun j q => by have := va.sn j q; omega) (by omega) f5) fun v6 h6 n6 hn6 f6 ⟨k6, hh⟩ => ?_
    have k6' : ∀ j, K j → h6 j = h0 j := fun j q => by rw [k6 j (.inl q)]; exact k5 j q
    rcases hh with ⟨he, e6, y6⟩ | ⟨he, e6, y6⟩
    · subst e6
      have hnone : RES = none := by rw [← hres, mD, hat, y9.2 he]; rfl
      simp only [aB, fgr, execOp, opd, ofValue, aC, put, nth, aA, bor, aJ, aK, intOp, aW, branch, Int.reduceEq, gL, gB, gI]
      exact hR _ _ _ _ _ _ _ _ _ _ _ _ _ _ _ _ _ _ _ _ _ _ hnone k6'
    · subst e6
      have hne : rH v L = false := by
        cases e : rH v L with
        | false => rfl
        | true => exact absurd (y9.1 e) he
      rw [mD, hat, hne] at hres
      have r6 : Row h6 n (aS v sw) := r5.aT (k6 n (.inr ⟨Nat.le_refl _, by omega⟩))
      simp only [aB, tyr, fgr, execOp, opd, ofValue, aC, put, nth, aA, und, sizeOf, bor, aJ, aK, intOp, aW, branch, aV, aO, fieldAddr, bne_self_eq_false, gL, gB, gI]
      rw [aN (kL r6 va.ok)]
      simp only [aB, tyr, fgr, execOp, opd, ofValue, aC, put, nth, aA, und, lenOf, bor, aJ, aK, intOp, bR, dH, cP, convert, gX, qD, w1, gB]
      exact ih (i + 1) h6 n6 (mE L v) (wQ (t + wQ v.value)) _ _ _ _ _ _ _ _ _ _ _ _ _ (by omega) (by simpa using hres) k6' (y6.sub fun j q => .inl q) (by rw [AI]; omega) (by omega) f6
theorem BX {L : List Ver} {hash : List UInt8} {pn z : Int} {w : Ver} (h : atV L hash pn z = some w) : w ∈ L ∧ w.hash = hash ∧ w.pn = pn ∧ there w z = true := by
  unfold atV at h
  have hm := List.mem_of_getLast? h
  obtain ⟨h1, h2⟩ := List.mem_filter.1 hm
  rw [Bool.and_eq_true] at h2
  have h3 := h2.1
  unfold same at h3
  simp only [Bool.and_eq_true, decide_eq_true_eq, beq_iff_eq] at h3
  exact ⟨h1, h3.1, h3.2, h2.2⟩
theorem J5 (Q : eB) (ks : List Kf) (K T : Nat → Prop) (y c a b : Nat) (A : App) (mv sv : a9) (RES : Option (List Ver × Int)) (h0 : Hp) (n0 : Nat) (hKn : ∀ j, K j → j < n0) (hcK : K c)
    (hAp : ∀ h, (∀ j, K j → h j = h0 j) → jD h a b A mv sv) (hrc : Row h0 c (bH A mv sv))
    (hT : ∀ (h : Hp) (n : Nat) (L : List Ver) (t : Int) (x0 x2 x11 x13 x15 x16 x17 x19 x20 x21 x22 x43 x54 x80 : a9), RES = some (L, t) → (∀ j, K j → h j = h0 j) → Ixw K T h n y L → n0 ≤ n → bK h n →
      dL env 69 none Q ks (.exit 2) (x0 :: .ptr y 0 :: x2 :: .int .u64 t :: a9.junk :: a9.junk :: .ptr c 0 :: a9.junk :: .int .u64 0 :: .bool false :: a9.junk :: x11 :: a9.junk :: x13 :: a9.junk :: x15 :: x16 :: x17 :: a9.junk :: x19 :: x20 :: x21 :: x22 :: a9.junk :: a9.junk :: a9.junk :: a9.junk :: a9.junk :: a9.junk :: a9.junk :: a9.junk :: a9.junk :: a9.junk :: a9.junk :: a9.junk :: a9.junk :: a9.junk :: a9.junk :: a9.junk :: a9.junk :: a9.junk :: a9.junk :: a9.junk :: x43 :: a9.junk :: a9.junk :: a9.junk :: a9.junk :: a9.junk :: a9.junk :: a9.junk :: sv :: .int .i64 (A.spends.length : Nat) :: .int .i64 (A.spends.length : Nat) :: x54 :: a9.junk :: a9.junk :: a9.junk :: a9.junk :: a9.junk :: a9.junk :: a9.junk :: a9.junk :: a9.junk :: a9.junk :: a9.junk :: a9.junk :: a9.junk :: a9.junk :: a9.junk :: a9.junk :: a9.junk :: a9.junk :: a9.junk :: a9.junk :: a9.junk :: a9.junk :: a9.junk :: a9.junk :: a9.junk :: x80 :: a9.junk :: a9.junk :: a9.junk :: a9.junk :: a9.junk :: a9.junk :: a9.junk :: []) h n)
    (hR : ∀ (h : Hp) (n : Nat) (x0 x1 x2 x3 x6 x11 x13 x15 x16 x17 x19 x20 x21 x22 x43 x51 x52 x53 x54 x80 : a9), RES = none → (∀ j, K j → h j = h0 j) → dL env 69 none Q ks .ret (x0 :: x1 :: x2 :: x3 :: a9.junk :: a9.junk :: x6 :: a9.junk :: .int .u64 0 :: .bool false :: a9.junk :: x11 :: a9.junk :: x13 :: a9.junk :: x15 :: x16 :: x17 :: a9.junk :: x19 :: x20 :: x21 :: x22 :: a9.junk :: a9.junk :: a9.junk :: a9.junk :: a9.junk :: a9.junk :: a9.junk :: a9.junk :: a9.junk :: a9.junk :: a9.junk :: a9.junk :: a9.junk :: a9.junk :: a9.junk :: a9.junk :: a9.junk :: a9.junk :: a9.junk :: a9.junk :: x43 :: a9.junk :: a9.junk :: a9.junk :: a9.junk :: a9.junk :: a9.junk :: a9.junk :: x51 :: x52 :: x53 :: x54 :: a9.junk :: a9.junk :: a9.junk :: a9.junk :: a9.junk :: a9.junk :: a9.junk :: a9.junk :: a9.junk :: a9.junk :: a9.junk :: a9.junk :: a9.junk :: a9.junk :: a9.junk :: a9.junk :: a9.junk :: a9.junk :: a9.junk :: a9.junk :: a9.junk :: a9.junk :: a9.junk :: a9.junk :: a9.junk :: x80 :: a9.junk :: a9.junk :: a9.junk :: a9.junk :: a9.junk :: a9.junk :: a9.junk :: []) h n) :
    ∀ (m i : Nat) (h : Hp) (n : Nat) (L : List Ver) (t : Int) (x0 x2 x11 x13 x15 x16 x17 x19 x20 x21 x22 x43 x54 x80 : a9), i + m = A.spends.length → mM A.height (A.spends.drop i) L t = RES → (∀ j, K j → h j = h0 j) → Ixw K T h n y L → L.length ≤ 900000 → n0 ≤ n → bK h n →
      Run env 69 none Q (.loop CO) ks (x0 :: .ptr y 0 :: x2 :: .int .u64 t :: a9.junk :: a9.junk :: .ptr c 0 :: a9.junk :: .int .u64 0 :: .bool false :: a9.junk :: x11 :: a9.junk :: x13 :: a9.junk :: x15 :: x16 :: x17 :: a9.junk :: x19 :: x20 :: x21 :: x22 :: a9.junk :: a9.junk :: a9.junk :: a9.junk :: a9.junk :: a9.junk :: a9.junk :: a9.junk :: a9.junk :: a9.junk :: a9.junk :: a9.junk :: a9.junk :: a9.junk :: a9.junk :: a9.junk :: a9.junk :: a9.junk :: a9.junk :: a9.junk :: x43 :: a9.junk :: a9.junk :: a9.junk :: a9.junk :: a9.junk :: a9.junk :: a9.junk :: sv :: .int .i64 (A.spends.length : Nat) :: .int .i64 (i : Nat) :: x54 :: a9.junk :: a9.junk :: a9.junk :: a9.junk :: a9.junk :: a9.junk :: a9.junk :: a9.junk :: a9.junk :: a9.junk :: a9.junk :: a9.junk :: a9.junk :: a9.junk :: a9.junk :: a9.junk :: a9.junk :: a9.junk :: a9.junk :: a9.junk :: a9.junk :: a9.junk :: a9.junk :: a9.junk :: a9.junk :: x80 :: a9.junk :: a9.junk :: a9.junk :: a9.junk :: a9.junk :: a9.junk :: a9.junk :: []) h n := by
  intro m
  induction m with
  | zero =>
    intro i h n L t x0 x2 x11 x13 x15 x16 x17 x19 x20 x21 x22 x43 x54 x80 hm hres hk hy hl hn hf
    have : i = A.spends.length := by omega
    subst this
    rw [List.drop_length] at hres
    rw [bZ]
    have hcc : ¬ (((A.spends.length : Nat) : Int) < ((A.spends.length : Nat) : Int)) := by omega
    simp only [CO, bO, Try.f69, Option.getD_some, aB, fgr, execOp, opd, aC, put, nth, aA, bor, aJ, aK, intOp, List.getD_cons_zero, List.getD_cons_succ, hcc, gL, gB]
    exact hT h n L t _ _ _ _ _ _ _ _ _ _ _ _ _ _ hres.symm hk hy hn hf
  | succ m ih =>
    intro i h n L t x0 x2 x11 x13 x15 x16 x17 x19 x20 x21 x22 x43 x54 x80 hm hres hk hy hl hn hf
    have ha := hAp h hk
    have hil : i < A.spends.length := by omega
    have hcc : (((i : Nat) : Int) < ((A.spends.length : Nat) : Int)) := by omega
    have w1 : IntKind.i64.wrap (((i : Nat) : Int) + 1) = ((i + 1 : Nat) : Int) := by rw [w64 (by omega) (by have := ha.sl; omega)]; omega
    obtain ⟨ok, hld⟩ := ha.s.all (n := n) hil
    rw [← List.getElem_cons_drop hil] at hres
    generalize A.spends[i] = v at *
    rw [bZ]
    simp only [CO, bO, Try.f69, Option.getD_some, aB, fgr, execOp, opd, aC, put, nth, aA, bor, aJ, aK, intOp, List.getD_cons_zero, List.getD_cons_succ, hcc, gL, gB]
    rw [aN (ha.s.idx hil)]
    simp only [aB, execOp, opd, aC, put, nth]
    rw [aN hld]
    simp only [aB, execOp, aC, put]
    rw [cG wS rfl]
    simp only [aB, execOp, opd, aC, put, nth, cel]
    refine dW (v := .agg (eO v)) wS rfl (kU ok) (pX v) hf fun H1 r1 p1 f1 => ?_
    replace r1 : Row H1 n (eO v) := r1
    have O1 : Old h H1 n := fun j hj => p1 j (by omega)
    have k1 : ∀ j, K j → H1 j = h0 j := fun j q => by rw [p1 j (by have := hKn j q; omega)]; exact hk j q
    have y1 := hy.grow (n' := n + 1) (by omega) O1
    have rc1 : Row H1 c (bH A mv sv) := hrc.aT (k1 c hcK)
    simp only [aB, tyr, fgr, execOp, opd, aC, put, nth, aA, und, sizeOf, aV, aO, fieldAddr, gL, gI]
    rw [aN (tX r1 ok)]
    simp only [aB, tyr, execOp, opd, aC, put, nth, und, sizeOf, aV, aO, fieldAddr, gL, gI]
    rw [aN (sV rc1)]
    simp only [aB, hkr, execOp, opd, bC, aC, put, nth, aI, aD, gL]
    refine bB f1 (ZC v.hash v.pn A.height ok.h y1.k hl f1) fun v3 h3 n3 hn3 f3 ⟨o3, sA, e3, okA, bA, iA⟩ => ?_
    subst e3
    simp only [aB, execOp, opd, aC, put, nth, extract, aV, gL]
    rw [cG eX rfl]
    simp only [aB, execOp, opd, aC, put, nth, cel]
    refine dW (v := .agg (aS ((atV L v.hash v.pn A.height).getD noV) sA)) eX rfl (bV okA.h okA.b) (dV bA.kind.2.1) f3 fun H4 r4 p4 f4 => ?_
    replace r4 : Row H4 n3 (aS ((atV L v.hash v.pn A.height).getD noV) sA) := r4
    have O4 : Old H1 H4 (n + 1) := fun j hj => by rw [p4 j (by omega), o3 j hj]
    have k4 : ∀ j, K j → H4 j = h0 j := fun j q => by have := hKn j q; rw [O4 j (by omega)]; exact k1 j q
    have y4 := y1.old (n' := n3 + 1) (by omega) O4
    have s4 : Row H4 n (eO v) := r1.aT (O4 n (by omega))
    have rc4 : Row H4 c (bH A mv sv) := hrc.aT (k4 c hcK)
    cases hat : atV L v.hash v.pn A.height with
    | none =>
      have hnone : RES = none := by rw [← hres, mM, hat]
      simp only [aB, fgr, execOp, opd, ofValue, aC, put, nth, aA, unOp, aW, branch, Option.isSome_none, gL, gB]
      exact hR _ _ _ _ _ _ _ _ _ _ _ _ _ _ _ _ _ _ _ _ _ _ hnone k4
    | some w =>
    rw [hat] at r4 okA
    simp only [Option.getD_some] at r4 okA
    obtain ⟨hwL, hwh, hwp, _⟩ := BX hat
    simp only [aB, tyr, fgr, execOp, opd, aC, put, nth, aA, und, sizeOf, unOp, aV, aO, fieldAddr, Option.isSome_some, gL, gB, gI]
    rw [aN (tX s4 ok)]
    simp only [aB, tyr, execOp, opd, aC, put, nth, und, sizeOf, aV, aO, fieldAddr, gL, gI]
    rw [aN (fJ r4 okA)]
    simp only [aB, tyr, execOp, opd, aC, put, nth, und, sizeOf, aV, aO, fieldAddr, gL, gI]
    rw [aN (sV rc4)]
    simp only [aB, tyr, execOp, opd, aC, put, nth, und, sizeOf, aV, aO, fieldAddr, gL, gI]
    rw [aN (MB s4 ok)]
    simp only [aB, hkr, execOp, opd, bC, aC, put, nth, aI, aD, gL]
    have y4' := y4.grow (h' := H4) (n' := n3 + 1) (Nat.le_refl _) (Old.refl _ _)
    have y4c : Ixw (fun j => (K j ∨ (n ≤ j ∧ j < n + 1)) ∨ j = n3) T H4 (n3 + 1) y L := by
      have := (y1.old (n' := n3) hn3 o3).grow (h' := H4) (n' := n3 + 1) (by omega) (fun j hj => p4 j (by omega))
      exact this.sub fun j q => by
        rcases q with q | q
        · exact .inl q
        · exact .inr (by omega)
    refine bB f4 (f36w v.hash v.pn w.made A.height v.by_ ok.h ok.b y4c hl f4) fun v6 h6 n6 hn6 f6 ⟨k6, hh⟩ => ?_
    have k6' : ∀ j, K j → h6 j = h0 j := fun j q => by rw [k6 j (.inl (.inl q))]; exact k4 j q
    rcases hh with ⟨he, e6, y6⟩ | ⟨w2, hw2, hk2, h1, h2, h3', e6, y6⟩
    · subst e6
      have hw := he w hwL (by rw [← hwh, ← hwp]; exact zJ w)
      have hnone : RES = none := by
        rw [← hres, mM, hat]
        simp only
        rw [if_neg]
        simp only [Bool.and_eq_true, decide_eq_true_eq]
        omega
      simp only [aB, fgr, execOp, opd, ofValue, aC, put, nth, aA, bor, aJ, aK, intOp, aW, branch, Int.reduceEq, gL, gB, gI]
      exact hR _ _ _ _ _ _ _ _ _ _ _ _ _ _ _ _ _ _ _ _ _ _ hnone k6'
    · subst e6
      have hww : w2 = w := by
        refine jT hy.rL hw2 hwL ?_
        have e := yB hk2
        have : fB w2 (key w.hash w.pn w.made) = 0 := by rw [hwh, hwp]; exact hk2
        exact this
      subst hww
      rw [mM, hat] at hres
      simp only at hres
      rw [if_pos (by simp only [Bool.and_eq_true, decide_eq_true_eq]; omega)] at hres
      have r6 : Row h6 n3 (aS w2 sA) := r4.aT (k6 n3 (.inr rfl))
      simp only [aB, tyr, fgr, execOp, opd, ofValue, aC, put, nth, aA, und, sizeOf, bor, aJ, aK, intOp, aW, branch, aV, aO, fieldAddr, bne_self_eq_false, gL, gB, gI]
      rw [aN (kL r6 okA)]
      simp only [aB, tyr, fgr, execOp, opd, ofValue, aC, put, nth, aA, und, lenOf, bor, aJ, aK, intOp, bR, dH, cP, convert, gX, qD, w1, gB]
      exact ih (i + 1) h6 n6 (pK L w2 (iR w2 A.height v.by_)) (wQ (t - wQ w2.value)) _ _ _ _ _ _ _ _ _ _ _ _ _ _ (by omega) hres k6' (y6.sub fun j q => .inl (.inl q)) (by rw [uN]; exact hl) (by omega) f6
def tD (L0 : List Ver) (tip : Int) (A : App) (L : List Ver) (t : Int) : Option (List Ver × Int) := match mD L0 tip A.made L t with
  | some r => mM A.height A.spends r.1 r.2
  | none => none
theorem f69 (W K T : Nat → Prop) (s y a b : Nat) (A : App) (mv sv : a9) (L0 L : List Ver) (I : List Inf) (t : Int) (h : Hp) (n : Nat) (hy : Ixw K T h n y L) (hK : ∀ j, K j → j < n)
    (hSt : ∀ h' n', n ≤ n' → (∀ j, K j → h' j = h j) → St W h' n' s L0 I) (hAp : ∀ h', (∀ j, K j → h' j = h j) → jD h' a b A mv sv) (hb : b ≤ n)
    (hpn : ∀ v ∈ A.made, 0 ≤ v.pn) (hsl : ∀ v ∈ A.made, v.script.length ≤ 1000000) (hI : I.length ≤ 1000000) (hL0 : L0.length ≤ 900000) (hL : L.length + A.made.length ≤ 900000) (hf : bK h n) :
    Wp (aZ env (evalW env) 69 [.ptr s 0, .ptr y 0, .agg (bH A mv sv), .int .u64 t]) h n fun v' h' n' => (∀ j, K j → h' j = h j) ∧
      ((∃ L' t', tD L0 (((I.length : Nat) : Int) - 1) A L t = some (L', t') ∧ v' = .tup [.int .u64 t', .bool true] ∧ Ixw K T h' n' y L') ∨ (tD L0 (((I.length : Nat) : Int) - 1) A L t = none ∧ v' = .tup [.int .u64 0, .bool false])) := by
  have ha := hAp h fun j q => rfl
  refine bI ff69 fi69 ?_
  simp only [TV, Try.f69, Option.getD_some, List.replicate, aB, execOp, opd, nth, ended, aP, aQ, Nat.reduceAdd, Nat.reduceSub, gL, gI]
  refine dC (v := .agg (bH A mv sv)) lO rfl hf fun H1 r1 o1 f1 => ?_
  replace r1 : Row H1 n (bH A mv sv) := r1
  have y1 := hy.grow (n' := n + 1) (by omega) (fun j hj => o1 j (by omega))
  have y1' : Ixw (fun j => K j ∨ j = n) T H1 (n + 1) y L := y1.sub fun j q => q.elim .inl fun q => .inr (by omega)
  have kk : ∀ h' : Hp, (∀ j, (K j ∨ j = n) → h' j = H1 j) → ∀ j, K j → h' j = h j := fun h' q j w => by rw [q j (.inl w), o1 j (by have := hK j w; omega)]
  have a1 := hAp H1 (kk H1 fun j _ => rfl)
  simp only [aB, tyr, fgr, execOp, opd, ofValue, aC, put, nth, aA, und, sizeOf, aV, aO, fieldAddr, gL, gI]
  rw [aN (m8 r1 ha.b)]
  simp only [aB, fgr, execOp, opd, bC, ofValue, aC, put, nth, aA, aI, builtin, dB, a1.m.len]
  refine J6 _ _ W (fun j => K j ∨ j = n) T s y n a b A mv sv L0 I (mD L0 (((I.length : Nat) : Int) - 1) A.made L t) H1 (n + 1) (fun j q => by rcases q with q | q; have := hK j q; omega; omega) (.inr rfl) (fun h' n' q w => hSt h' n' (by omega) (kk h' w)) (fun h' w => hAp h' (kk h' w)) (by omega) r1 hpn hsl hI hL0 ?_ ?_ A.made.length 0 H1 (n + 1) L t _ _ _ _ _ _ _ _ _ _ _ _ _ (by omega) rfl (fun j _ => rfl) y1' (by omega) (Nat.le_refl _) f1
  · intro h2 n2 L2 t2 x2 x11 x13 x15 x16 x17 x22 x43 x51 x52 x53 x54 x80 hres k2 y2 hl2 hn2 f2
    have rc2 : Row h2 n (bH A mv sv) := r1.aT (k2 n (.inr rfl))
    have a2 := hAp h2 (kk h2 k2)
    simp only [aB, tyr, execOp, opd, aC, put, nth, und, sizeOf, aV, aO, fieldAddr, gL, gI]
    rw [aN (sU rc2 ha.b)]
    simp only [aB, fgr, execOp, opd, bC, ofValue, aC, put, nth, aA, aI, builtin, dB, a2.s.len]
    refine J5 _ _ (fun j => K j ∨ j = n) T y n a b A mv sv (mM A.height A.spends L2 t2) h2 n2 (fun j q => by rcases q with q | q; have := hK j q; omega; omega) (.inr rfl) (fun h' w => hAp h' (kk h' fun j q => (w j q).trans (k2 j q))) rc2 ?_ ?_ A.spends.length 0 h2 n2 L2 t2 _ _ _ _ _ _ _ _ _ _ _ _ _ _ (by omega) rfl (fun j _ => rfl) y2 hl2 (Nat.le_refl _) f2
    · intro h3 n3 L3 t3 x0 x2 x11 x13 x15 x16 x17 x19 x20 x21 x22 x43 x54 x80 hres3 k3 y3 hn3 f3
      simp only [aB, fgr, execOp, opd, ofValue, aC, put, nth, aA, gB]
      exact ⟨kk h3 fun j q => (k3 j q).trans (k2 j q), .inl ⟨L3, t3, by unfold tD; rw [hres]; exact hres3, rfl, y3.sub fun j q => .inl q⟩⟩
    · intro h3 n3 x0 x1 x2 x3 x6 x11 x13 x15 x16 x17 x19 x20 x21 x22 x43 x51 x52 x53 x54 x80 hres3 k3
      simp only [aB, nth, and_true, true_and]
      exact ⟨kk h3 fun j q => (k3 j q).trans (k2 j q), .inr (by unfold tD; rw [hres]; exact hres3)⟩
  · intro h3 n3 x0 x1 x2 x3 x6 x11 x13 x15 x16 x17 x19 x20 x21 x22 x43 x51 x52 x53 x54 x80 hres3 k3
    simp only [aB, nth, and_true, true_and]
    exact ⟨kk h3 k3, .inr (by unfold tD; rw [hres3])⟩
def iY (I : List Inf) : Inf := (I.getLast?).getD gR
theorem b61 : build env 61 [] = M.pure (.agg (bP gR)) := rfl
end Go.Am.Ytlgebaofkolkoaa
set_option linter.unusedSimpArgs false
set_option linter.unusedVariables false
set_option linter.defProp false
set_option maxRecDepth 10000
namespace Go.Am.Ytlgebaofkolkoaa
open Go Go.Am Go.Proofs
theorem f68 (s x : Nat) (lv : a9) (I : List Inf) (h : Hp) (n : Nat) (hr : Row h s [.ptr x 0, lv]) (hi : IL h lv I) (hs : s < n) (hlv : ∀ j, bD lv = some j → j < n) (hc : I.length ≤ 1000000) (hf : bK h n) :
    Wp (aZ env (evalW env) 68 [.ptr s 0]) h n fun v' h' n' => v' = .agg (bP (iY I)) ∧ (iY I).block.length = 32 ∧ Old h h' n := by
  refine bI ff68 fi68 ?_
  simp only [TW, Try.f68, Option.getD_some, List.replicate, aB, execOp, ended, aP, aQ, Nat.reduceSub, gL, gI]
  rw [cG gJ rfl]
  obtain ⟨H1, hH1⟩ : ∃ H1, H1 = upd h n (some (.row (.l (bP gR)) 61)) := ⟨_, rfl⟩
  have g1 : H1 n = some (.row (.l (bP gR)) 61) := by rw [hH1, aU]
  have o1 : ∀ j, j ≠ n → H1 j = h j := fun j hj => by rw [hH1, aR _ _ hj]
  have f1 : bK H1 (n + 1) := by rw [hH1]; exact hf.new
  show Ops _ _ _ _ _ _ _ _ (upd h n (some (.row (.l (bP gR)) 61))) _
  rw [← hH1]
  clear hH1
  have r1 : Row H1 s [.ptr x 0, lv] := hr.aT (o1 s (by omega))
  have i1 : IL H1 lv I := hi.aT fun j q => o1 j (by have := hlv j q; omega)
  simp only [aB, tyr, fgr, execOp, opd, aC, put, nth, aA, und, sizeOf, nilCheck, aV, aO, fieldAddr, gL, gI]
  rw [aN (r1.one (off := 1) rfl qL rfl)]
  simp only [aB, fgr, execOp, opd, bC, ofValue, aC, put, nth, aA, aI, builtin, dB, bor, aJ, aK, intOp, i1.len, gB, gI]
  by_cases h0 : I.length = 0
  · have hI : I = [] := List.eq_nil_of_length_eq_zero h0
    subst hI
    simp only [aB, execOp, opd, dA, aC, put, nth, Int.cast_ofNat_Int, b61, gL, gB]
    rw [eC (Row.write (v := .agg (bP gR)) g1 gJ (bW fK) (by rw [bW fK]; show 0 + 37 ≤ 37; omega) (fA _))]
    rw [eN (by rfl)]
    simp only [aB, fgr, aC, nth, aA, cel, true_and]
    refine eV (Row.whole (cs := bP gR) ⟨61, aU _ _ _⟩ gJ rfl (bW fK)) (wp_pure.2 ?_)
    exact ⟨rfl, fK, fun j hj => by rw [aR _ _ (by omega), o1 j (by omega)]⟩
  · have hb : (((I.length : Nat) : Int) == 0) = false := by rw [beq_eq_false_iff_ne]; omega
    have h0' : ¬ ((I.length : Nat) : Int) = 0 := by omega
    simp only [aB, decide_false, h0']
    have hil : I.length - 1 < I.length := by omega
    have w1 : IntKind.i64.wrap (((I.length : Nat) : Int) - 1) = ((I.length - 1 : Nat) : Int) := by rw [w64 (by omega) (by omega)]; omega
    have hlast : iY I = I[I.length - 1] := by
      unfold iY
      rw [List.getLast?_eq_getElem?, List.getElem?_eq_getElem hil]; rfl
    obtain ⟨bok, hld⟩ := i1.all (n := n + 1) hil
    rw [hlast]
    refine cB ⟨rfl, ?_⟩
    simp only [aF, aH, aB, tyr, execOp, opd, aC, put, nth, und, sizeOf, nilCheck, aV, aO, fieldAddr, Nat.reduceAdd, gL, gI]
    rw [bL (r1.one (off := 1) rfl qL rfl)]
    simp only [aF, aH, aB, tyr, execOp, opd, aC, put, nth, und, sizeOf, nilCheck, aV, aO, fieldAddr, Nat.reduceAdd, gL, gI]
    rw [bL (r1.one (off := 1) rfl qL rfl)]
    simp only [aF, aH, execOp, opd, bC, ofValue, aC, put, nth, aI, builtin, dB, bor, aJ, aK, intOp, bR, Nat.reduceAdd, i1.len, w1, gB]
    rw [bL (i1.idx hil)]
    simp only [aF, execOp, opd, aC, put, nth, Nat.reduceAdd]
    rw [bL hld]
    simp only [aF, execOp, opd, aC, put, nth, Nat.reduceAdd]
    refine kA (Row.write (v := .agg (bP I[I.length - 1])) g1 gJ (bW bok) (by rw [bW fK]; show 0 + 37 ≤ 37; omega) (fA _)) ?_
    rw [eN (by show (bP _).length = _; rw [bW bok, bW fK])]
    simp only [bS, aB, fgr, aC, nth, aA, cel, Nat.reduceAdd, true_and]
    refine ⟨(by (try simp (disch := first | assumption | omega) only [cV, List.all_cons, List.all_nil, gB, gF]); repeat' (first | rfl | exact (Bool.or_eq_true _ _).mpr (.inr rfl) | refine (Bool.and_eq_true _ _).mpr ⟨?_, ?_⟩)), ?_⟩
    refine eV (Row.whole (cs := bP I[I.length - 1]) ⟨61, aU _ _ _⟩ gJ rfl (bW bok)) (wp_pure.2 ?_)
    exact ⟨rfl, bok, fun j hj => by rw [aR _ _ (by omega), o1 j (by omega)]⟩
def sN (z : Int) : Int := IntKind.i64.wrap z
def uU (t : Int) : Bool := decide (2100000000000000 < t)
def mH (I : List Inf) (A : App) (t : Int) : Inf := ⟨A.height, A.block, sN (sN ((iY I).coins + (A.made.length : Nat)) - (A.spends.length : Nat)), sN t, sN ((iY I).burnt + A.burnt), sN ((iY I).left + A.left)⟩
def eS (L : List Ver) (I : List Inf) (A : App) : Option (List Ver × List Inf) := match lJ A && decide (A.height = ((I.length : Nat) : Int)) with
  | false => none
  | true => match tD L (((I.length : Nat) : Int) - 1) A L (wQ (iY I).total) with
    | none => none
    | some r => match uU r.2 || uU (sN ((iY I).burnt + A.burnt)) || uU (sN ((iY I).left + A.left)) with
      | true => none
      | false => some (r.1, I ++ [mH I A r.2])
def DR (o : Option (List Ver × List Inf)) : Int := match o with
  | some _ => 0
  | none => 220
theorem yC {A : App} (h : lJ A = true) : ∀ v ∈ A.made, v.script.length ≤ 2000 ∧ mY A.height v = true := fun v hv => by
  obtain ⟨k, hk, rfl⟩ := List.mem_iff_getElem.1 hv
  unfold lJ iM at h
  rw [Bool.and_eq_true, List.all_eq_true] at h
  have := h.2 k (List.mem_range.2 (by omega))
  unfold vC at this
  rw [if_pos hk] at this
  unfold G1 at this
  rw [List.getElem?_eq_getElem hk] at this
  simp only [Bool.and_eq_true] at this
  refine ⟨?_, this.1⟩
  have := this.1
  unfold mY at this
  simp only [Bool.and_eq_true, decide_eq_true_eq] at this
  exact this.2
def i0 : a9 := .int .i64 0
theorem O9 {i : Inf} (hb : i.block.length = 32) : build env 61 [(0, .int .i64 i.height), (1, .agg (i.block.map u8)), (2, .int .i64 i.coins), (3, .int .i64 i.total), (4, .int .i64 i.burnt), (5, .int .i64 i.left)] = M.pure (.agg (bP i)) := by
  have hB : (a9.agg (i.block.map u8)).cells.length = 32 := by show (i.block.map u8).length = 32; rw [List.length_map, hb]
  have hB' : (i.block.map u8).length = 32 := by rw [List.length_map, hb]
  have e1 : ∀ pl : Nat → Option (Nat × Nat), pl 0 = some (0, 1) → pl 1 = some (1, 32) → pl 2 = some (33, 1) → pl 3 = some (34, 1) → pl 4 = some (35, 1) → pl 5 = some (36, 1) →
      fill pl sF.i.zero.cells [(0, .int .i64 i.height), (1, .agg (i.block.map u8)), (2, .int .i64 i.coins), (3, .int .i64 i.total), (4, .int .i64 i.burnt), (5, .int .i64 i.left)] = some (bP i) := fun pl p0 p1 p2 p3 p4 p5 => by
    rw [show sF.i.zero.cells = [] ++ [i0] ++ (z32.map u8 ++ [i0, i0, i0, i0]) from rfl, gO p0 rfl rfl rfl rfl]
    rw [show [] ++ (a9.int .i64 i.height).cells ++ (z32.map u8 ++ [i0, i0, i0, i0]) = [.int .i64 i.height] ++ z32.map u8 ++ [i0, i0, i0, i0] from rfl, gO p1 rfl rfl hB rfl]
    rw [show [a9.int .i64 i.height] ++ (a9.agg (i.block.map u8)).cells ++ [i0, i0, i0, i0] = (.int .i64 i.height :: i.block.map u8) ++ [i0] ++ [i0, i0, i0] by simp [a9.cells], gO p2 (by simp [hb]) rfl rfl rfl]
    rw [show (a9.int .i64 i.height :: i.block.map u8) ++ (a9.int .i64 i.coins).cells ++ [i0, i0, i0] = (.int .i64 i.height :: i.block.map u8 ++ [.int .i64 i.coins]) ++ [i0] ++ [i0, i0] by simp [a9.cells], gO p3 (by simp [hb]) rfl rfl rfl]
    rw [show (a9.int .i64 i.height :: i.block.map u8 ++ [.int .i64 i.coins]) ++ (a9.int .i64 i.total).cells ++ [i0, i0] = (.int .i64 i.height :: i.block.map u8 ++ [.int .i64 i.coins, .int .i64 i.total]) ++ [i0] ++ [i0] by simp [a9.cells], gO p4 (by simp [hb]) rfl rfl rfl]
    rw [show (a9.int .i64 i.height :: i.block.map u8 ++ [.int .i64 i.coins, .int .i64 i.total]) ++ (a9.int .i64 i.burnt).cells ++ [i0] = (.int .i64 i.height :: i.block.map u8 ++ [.int .i64 i.coins, .int .i64 i.total, .int .i64 i.burnt]) ++ [i0] ++ [] by simp [a9.cells], gO p5 (by simp [hb]) rfl rfl rfl]
    simp only [fill, bP, a9.cells]
    simp
  have e2 : build env 61 [(0, .int .i64 i.height), (1, .agg (i.block.map u8)), (2, .int .i64 i.coins), (3, .int .i64 i.total), (4, .int .i64 i.burnt), (5, .int .i64 i.left)] = (aV "build" (fill ([(0, 1), (1, 32), (33, 1), (34, 1), (35, 1), (36, 1)][·]?) sF.i.zero.cells [(0, .int .i64 i.height), (1, .agg (i.block.map u8)), (2, .int .i64 i.coins), (3, .int .i64 i.total), (4, .int .i64 i.burnt), (5, .int .i64 i.left)])).bind fun cs => M.pure (.agg cs) := rfl
  rw [e2, e1 _ rfl rfl rfl rfl rfl rfl]
  rfl
theorem bs57 {X : List a9} (hX : X.length = 37) : buildSlice env 57 1 [(0, .agg X)] = (newRow env 61 X).bind fun id => M.pure (.sl id 0 1 (some 1) 37) := by
  have e1 : fill (fun k => some (k * 37, 37)) (fF sF.i.zero.cells 1) [(0, .agg X)] = some X := by
    have : fF sF.i.zero.cells 1 = [] ++ sF.i.zero.cells ++ [] := rfl
    rw [this, gO (off := 0) (sz := 37) (pre := []) (mid := sF.i.zero.cells) (post := []) (v := .agg X) (rest := []) rfl rfl rfl hX rfl]
    simp [fill, a9.cells]
  have e2 : buildSlice env 57 1 [(0, .agg X)] = (aV "buildSlice" (fill (fun k => some (k * 37, 37)) (fF sF.i.zero.cells 1) [(0, .agg X)])).bind fun cs => (newRow env 61 cs).bind fun id => M.pure (.sl id 0 1 (some 1) 37) := rfl
  rw [e2, e1]
  rfl
theorem f19 {W : Nat → Prop} {h : Hp} {n s : Nat} {L : List Ver} {I : List Inf} (q : St W h n s L I) (A : App) (mv sv : a9) (a b : Nat) (ha : jD h a b A mv sv) (hb : b ≤ n) (haW : ∀ j, a ≤ j → j < b → ¬ W j)
    (hpn : ∀ v ∈ A.made, 0 ≤ v.pn) (hI : I.length ≤ 900000) (hL : L.length + A.made.length ≤ 900000) (hf : bK h n) :
    Wp (aZ env (evalW env) 19 [.ptr s 0, .agg (bH A mv sv)]) h n fun v' h' n' => v' = .int .i64 (DR (eS L I A)) ∧ (∀ j, j < n → j ≠ s → h' j = h j) ∧ St W h' n' s ((eS L I A).getD (L, I)).1 ((eS L I A).getD (L, I)).2 := by
  have sn := q.sn
  refine bI ff19 fi19 ?_
  simp only [UJ, Try.f19, Option.getD_some, List.replicate, aB, execOp, opd, nth, ended, aP, aQ, Nat.reduceAdd, Nat.reduceSub, gL, gI]
  refine dC (v := .agg (bH A mv sv)) lO rfl hf fun H1 r1 o1 f1 => ?_
  replace r1 : Row H1 n (bH A mv sv) := r1
  have O1 : Old h H1 n := fun j hj => o1 j (by omega)
  have q1 := q.old (n' := n + 1) (by omega) O1
  have a1 : jD H1 a b A mv sv := ha.aT fun j _ w => O1 j (by omega)
  obtain ⟨x, lv, rs, ix, il, sa, sb, sc⟩ := q1
  simp only [aB, fgr, hkr, execOp, opd, bC, ofValue, aC, put, nth, aA, aI, aD, gL]
  refine dZ (f66 s x lv H1 (n + 1) rs) ?_
  simp only [aB, fgr, execOp, opd, aC, put, nth, aA]
  refine cB ⟨rfl, ?_⟩
  simp only [aF, execOp, opd, nth]
  rw [bL (lM r1 ha.b)]
  simp only [aF, hkr, execOp, opd, bC, aC, put, nth, aI, aD, gL, gI]
  refine dI f1 (f67 A mv sv a b H1 (n + 1) a1 (by omega) f1) fun v2 h2 n2 rr2 ww2 hn2 f2 ⟨e2, o2⟩ => ?_
  subst e2
  have k2 : ∀ j, j < n → h2 j = h j := fun j hj => by rw [o2 j (by omega), O1 j hj]
  have r2 : Row h2 n (bH A mv sv) := r1.aT (o2 n (by omega))
  have q2 := q.old (n' := n2) (by omega) (fun j hj => k2 j hj)
  cases hck : lJ A with
  | false =>
    have hno : eS L I A = none := by unfold eS; rw [hck]; rfl
    rw [hno]
    simp only [bS, aF, cY, cK, cX, lY, eP, aH, aB, fgr, execOp, opd, ofValue, aC, put, nth, aA, bor, aJ, aK, intOp, aW, branch, Nat.reduceAdd, ↓reduceIte, Int.reduceEq, reduceCtorEq, gL, gB, gI]
    refine ⟨(by (try simp (disch := first | assumption | omega) only [cV, List.all_cons, List.all_nil, gB, gF]); repeat' (first | rfl | exact (Bool.or_eq_true _ _).mpr (.inr rfl) | refine (Bool.and_eq_true _ _).mpr ⟨?_, ?_⟩)), ?_⟩
    exact ⟨rfl, fun j hj _ => k2 j hj, q2⟩
  | true =>
  obtain ⟨x, lv, rs, ix, il, sa, sb, sc⟩ := q2
  have w1 : IntKind.i64.wrap (((I.length : Nat) : Int) - 1 + 1) = ((I.length : Nat) : Int) := by rw [w64 (by omega) (by omega)]; omega
  simp only [aF, cY, cK, cX, iG, aH, aB, tyr, execOp, opd, ofValue, aC, put, nth, und, sizeOf, bor, aJ, aK, intOp, aV, aO, fieldAddr, Nat.reduceAdd, ↓reduceIte, bne_self_eq_false, gL, gB, gI]
  rw [bL (sV r2)]
  simp only [cY, cK, cX, iG, aH, hkr, execOp, opd, bC, aC, put, nth, aI, aD, Nat.reduceAdd, gL]
  rw [bL (MJ s x lv I h2 n2 rs il (by omega))]
  simp only [bS, aF, cY, cK, cX, iG, eP, aH, aB, fgr, execOp, opd, ofValue, aC, put, nth, aA, bor, aJ, aK, intOp, bR, aW, branch, Nat.reduceAdd, decide_not, w1, gL, gB, gI]
  by_cases hh : A.height = ((I.length : Nat) : Int)
  · simp only [aB, tyr, execOp, opd, aC, put, nth, und, sizeOf, nilCheck, aV, aO, fieldAddr, hh, gL, gB, gI]
    refine ⟨(by (try simp (disch := first | assumption | omega) only [cV, List.all_cons, List.all_nil, gB, gF]); repeat' (first | rfl | exact (Bool.or_eq_true _ _).mpr (.inr rfl) | refine (Bool.and_eq_true _ _).mpr ⟨?_, ?_⟩)), ?_⟩
    rw [aN (rs.one (off := 0) rfl pV rfl)]
    simp only [aB, hkr, execOp, opd, bC, aC, put, nth, aI, aD, gL]
    have ixx := ix
    obtain ⟨⟨D0, M0, ixi, ixk, ixt⟩, ixg⟩ := ixx
    refine bB f2 (f41 x L D0 M0 h2 n2 ixi (by omega) f2) fun v3 h3 n3 hn3 f3 ⟨y, M', e3, i3, hM, o3⟩ => ?_
    subst e3
    have y3 : Ixw (fun j => j < n2) W h3 n3 y L := ⟨⟨D0, M', i3, fun j hj => ⟨by omega, fun w => by have := hM j w; omega⟩, fun j hj => ⟨by have := (ixt j hj).1; omega, (ixt j hj).2⟩⟩, ixg⟩
    have rs3 := rs.aT (o3 s (by omega))
    have il3 : IL h3 lv I := il.aT fun j w => o3 j (by have := (sa j w).1; omega)
    simp only [aB, hkr, execOp, opd, bC, aC, put, nth, aI, aD, gL]
    refine bB f3 (f68 s x lv I h3 n3 rs3 il3 (by omega) (fun j w => by have := (sa j w).1; omega) (by omega) f3) fun v4 h4 n4 hn4 f4 ⟨e4, lb, o4⟩ => ?_
    subst e4
    simp only [aB, execOp, aC, put]
    rw [cG gJ rfl]
    simp only [aB, execOp, opd, aC, put, nth, cel]
    refine dW (v := .agg (bP (iY I))) gJ rfl (bW lb) (fA _) f4 fun H5 r5 o5 f5 => ?_
    replace r5 : Row H5 n4 (bP (iY I)) := r5
    have O35 : Old h3 H5 n3 := fun j hj => by rw [o5 j (by omega), o4 j hj]
    have y5 := y3.grow (n' := n4 + 1) (by omega) O35
    have K5 : ∀ j, j < n → H5 j = h j := fun j hj => by rw [O35 j (by omega), o3 j (by omega), k2 j hj]
    have r25 : Row H5 n (bH A mv sv) := r2.aT (by rw [O35 n (by omega), o3 n (by omega)])
    simp only [aB, fgr, execOp, opd, aC, put, nth, aA]
    rw [aN (lM r25 ha.b)]
    simp only [aB, tyr, execOp, opd, aC, put, nth, und, sizeOf, aV, aO, fieldAddr, gL, gI]
    rw [aN (Row.one (off := 34) r5 (lC lb 1) ti2 rfl)]
    simp only [aB, tyr, hkr, execOp, opd, bC, aC, put, nth, aI, aD, und, lenOf, bR, dH, cP, convert, gX, qD, gL]
    have KK : ∀ h' : Hp, (∀ j, (j < n2 ∨ (n3 ≤ j ∧ j < n4 + 1)) → h' j = H5 j) → ∀ j, j < n → h' j = h j := fun h' w j hj => by rw [w j (.inl (by omega)), K5 j hj]
    refine bB f5 (f69 W (fun j => j < n2 ∨ (n3 ≤ j ∧ j < n4 + 1)) W s y a b A mv sv L L I (wQ (iY I).total) H5 (n4 + 1) y5 (fun j w => by omega) (fun h' n' hn' w => q.old (by omega) fun j hj => KK h' w j hj) (fun h' w => ha.aT fun j _ q => KK h' w j (by omega)) (by omega) hpn (fun v hv => by have := (yC hck v hv).1; omega) (by omega) (by omega) hL f5) fun v6 h6 n6 hn6 f6 ⟨k6, hd⟩ => ?_
    have r26 : Row h6 n (bH A mv sv) := r25.aT (k6 n (.inl (by omega)))
    have r56 : Row h6 n4 (bP (iY I)) := r5.aT (k6 n4 (.inr (by omega)))
    have q6 := q.old (n' := n6) (by omega) (KK h6 k6)
    have w8 : ∀ u v : Int, IntKind.i64.wrap (u + v) = sN (u + v) := fun u v => rfl
    rcases hd with ⟨L', t', hd, e6, y6⟩ | ⟨hd, e6⟩
    · subst e6
      simp only [aB, fgr, execOp, opd, aC, put, nth, aA, extract, aV, gL]
      refine cB ⟨rfl, ?_⟩
      simp only [aF, aH, aB, tyr, execOp, opd, aC, put, nth, und, sizeOf, aV, aO, fieldAddr, gL, gI]
      rw [bL (Row.one (off := 35) r56 (lC lb 2) ti2 rfl)]
      simp only [aF, aH, aB, tyr, execOp, opd, aC, put, nth, und, sizeOf, aV, aO, fieldAddr, Nat.reduceAdd, gL, gI]
      rw [bL (zY r26 ha.b)]
      simp only [aF, aH, aB, tyr, execOp, opd, aC, put, nth, und, sizeOf, bor, aJ, aK, intOp, bR, aV, aO, fieldAddr, Nat.reduceAdd, gL, gB, gI]
      rw [bL (Row.one (off := 36) r56 (lC lb 3) ti2 rfl)]
      simp only [aF, aH, aB, tyr, execOp, opd, aC, put, nth, und, sizeOf, aV, aO, fieldAddr, Nat.reduceAdd, gL, gI]
      rw [bL (zX r26 ha.b)]
      simp only [bS, aF, aH, aB, fgr, execOp, opd, ofValue, aC, put, nth, aA, bor, aJ, aK, intOp, bR, unOp, aW, branch, Nat.reduceAdd, gt_iff_lt, gL, gB]
      refine ⟨(by (try simp (disch := first | assumption | omega) only [cV, List.all_cons, List.all_nil, gB, gF]); repeat' (first | rfl | exact (Bool.or_eq_true _ _).mpr (.inr rfl) | refine (Bool.and_eq_true _ _).mpr ⟨?_, ?_⟩)), ?_⟩
      by_cases c1 : 2100000000000000 < t'
      · have hno : eS L I A = none := by unfold eS uU; rw [hck, decide_eq_true hh, hd]; simp only [Bool.and_self]; rw [decide_eq_true c1]; rfl
        rw [hno]
        simp only [aB, fgr, execOp, opd, ofValue, aC, put, nth, aA, aW, branch, c1, gL, gB]
        exact ⟨rfl, fun j hj _ => KK h6 k6 j hj, q6⟩
      simp only [aB, execOp, opd, ofValue, aC, put, nth, bor, aJ, aK, intOp, aW, branch, gt_iff_lt, c1, gL, gB]
      by_cases c2 : 2100000000000000 < IntKind.i64.wrap ((iY I).burnt + A.burnt)
      · have hno : eS L I A = none := by unfold eS uU sN; rw [hck, decide_eq_true hh, hd]; simp only [Bool.and_self]; rw [decide_eq_true c2]; simp only [Bool.or_true, Bool.true_or]
        rw [hno]
        simp only [aB, fgr, execOp, opd, ofValue, aC, put, nth, aA, aW, branch, c2, gL, gB]
        exact ⟨rfl, fun j hj _ => KK h6 k6 j hj, q6⟩
      simp only [aB, fgr, execOp, opd, ofValue, aC, put, nth, aA, bor, aJ, aK, intOp, aW, branch, gt_iff_lt, c2, gL, gB]
      by_cases c3 : 2100000000000000 < IntKind.i64.wrap ((iY I).left + A.left)
      · have hno : eS L I A = none := by unfold eS uU sN; rw [hck, decide_eq_true hh, hd]; simp only [Bool.and_self]; rw [decide_eq_true c3]; simp only [Bool.or_true]
        rw [hno]
        simp only [aB, fgr, execOp, opd, ofValue, aC, put, nth, aA, c3, gB]
        exact ⟨rfl, fun j hj _ => KK h6 k6 j hj, q6⟩
      have hyes : eS L I A = some (L', I ++ [mH I A t']) := by unfold eS uU sN; rw [hck, decide_eq_true hh, hd]; simp only [Bool.and_self]; rw [decide_eq_false c1, decide_eq_false c2, decide_eq_false c3]; rfl
      rw [hyes]
      obtain ⟨x6, lv6, rs6, ix6, il6, sa6, sb6, sc6⟩ := q6
      obtain ⟨et, hs6⟩ := rs6
      simp only [aB, tyr, execOp, opd, aC, put, nth, und, sizeOf, nilCheck, aV, aO, fieldAddr, c3, gL, gB, gI]
      rw [eC (Row.write (off := 0) (v := .ptr y 0) hs6 pV rfl (by show 0 + 1 ≤ 2; omega) rfl)]
      obtain ⟨h7, hh7⟩ : ∃ h7, h7 = upd h6 s (some (.row (.l [.ptr y 0, lv6]) et)) := ⟨_, rfl⟩
      show Ops _ _ _ _ _ _ _ _ (upd h6 s (some (.row (.l [.ptr y 0, lv6]) et))) _
      rw [← hh7]
      have s7 : h7 s = some (.row (.l [.ptr y 0, lv6]) et) := by rw [hh7, aU]
      have o7 : ∀ j, j ≠ s → h7 j = h6 j := fun j hj => by rw [hh7, aR _ _ hj]
      have f7 : bK h7 n6 := by rw [hh7]; exact f6.upd (by omega)
      clear hh7
      have r27 : Row h7 n (bH A mv sv) := r26.aT (o7 n (by omega))
      have r57 : Row h7 n4 (bP (iY I)) := r56.aT (o7 n4 (by omega))
      have il7 : IL h7 lv6 I := il6.aT fun j w => o7 j (fun e => (sa6 j w).2 (by rw [e]; exact sb6))
      simp only [aB, fgr, aC, aA]
      refine cB ⟨rfl, ?_⟩
      simp only [aF, aH, aB, tyr, execOp, opd, aC, put, nth, und, sizeOf, nilCheck, aV, aO, fieldAddr, Nat.reduceAdd, gL, gI]
      rw [bL (Row.one (off := 1) ⟨et, s7⟩ rfl qL rfl)]
      simp only [aF, hkr, execOp, opd, bC, aC, put, nth, aI, aD, Nat.reduceAdd, gL]
      refine oD f7 (f70 lv6 I h7 (fun _ => none) n6 il7) (f70 lv6 I h7 h7 n6 il7) fun v8 h8 n8 hn8 f8 ⟨e8, eh8, en8⟩ => ?_
      subst e8; subst eh8; subst en8
      simp only [aF, aH, aB, tyr, execOp, opd, aC, put, nth, und, sizeOf, aV, aO, fieldAddr, Nat.reduceAdd, gL, gI]
      rw [bL (sV r27)]
      simp only [aF, aH, aB, tyr, execOp, opd, aC, put, nth, und, sizeOf, aV, aO, fieldAddr, Nat.reduceAdd, gL, gI]
      rw [bL (OL r27 ha.b)]
      simp only [aF, aH, aB, tyr, execOp, opd, aC, put, nth, und, sizeOf, aV, aO, fieldAddr, Nat.reduceAdd, gL, gI]
      rw [bL (Row.one (off := 33) r57 (lC lb 0) ti3 rfl)]
      simp only [aF, aH, aB, tyr, execOp, opd, aC, put, nth, und, sizeOf, aV, aO, fieldAddr, Nat.reduceAdd, gL, gI]
      rw [bL (m8 r27 ha.b)]
      simp only [aF, aH, aB, tyr, execOp, opd, bC, aC, put, nth, aI, builtin, dB, und, sizeOf, bor, aJ, aK, intOp, bR, aV, aO, fieldAddr, Nat.reduceAdd, ha.m.len, gL, gB, gI]
      rw [bL (sU r27 ha.b)]
      simp only [aF, aH, aB, tyr, execOp, opd, bC, dA, aC, put, nth, aI, builtin, dB, und, lenOf, bor, aJ, aK, intOp, bR, dH, cP, Nat.reduceAdd, ha.s.len, convert, gX, qD, gB]
      have hb61 : build env 61 [(0, .int .i64 A.height), (1, .agg (A.block.map u8)), (2, .int .i64 (IntKind.i64.wrap (IntKind.i64.wrap ((iY I).coins + (A.made.length : Nat)) - (A.spends.length : Nat)))), (3, .int .i64 (IntKind.i64.wrap t')), (4, .int .i64 (IntKind.i64.wrap ((iY I).burnt + A.burnt))), (5, .int .i64 (IntKind.i64.wrap ((iY I).left + A.left)))] = M.pure (.agg (bP (mH I A t'))) := O9 (i := mH I A t') ha.b
      rw [hb61]
      simp only [aF, aH, execOp, opd, dA, aC, put, nth, Nat.reduceAdd, bs57 (X := bP (mH I A t')) (bW (show (mH I A t').block.length = 32 from ha.b))]
      refine jX gJ f7 fun H9 g9 o9 f9 => ?_
      simp only [aF, execOp, opd, bC, aC, put, nth, aI, builtin, eT, Nat.reduceAdd]
      obtain ⟨cells, c1, c2⟩ := il7
      have c1' := c1.aT (h' := H9) fun j w => o9 j (by have := (sa6 j w).1; omega)
      refine dI f9 (wO (i := sF.i) (k := 1) c1' (qQ g9 (bW (show (mH I A t').block.length = 32 from ha.b))) u57 u57 gJ (by omega) (by show 2 * (I.length + 1) * 72 ≤ _; omega) (by omega)) fun v10 h10 n10 rr10 ww10 hn10 f10 ⟨e10, eh10, en10⟩ => ?_
      subst e10; subst en10
      have o10 : ∀ j, j ≠ n8 + 1 → h10 j = H9 j := fun j hj => by rw [eh10, aR _ _ hj]
      have g10 : h10 (n8 + 1) = some (.row (.l (cells ++ bP (mH I A t'))) 61) := by rw [eh10, aU]
      clear eh10
      have s10 : h10 s = some (.row (.l [.ptr y 0, lv6]) et) := by rw [o10 s (by omega), o9 s (by omega)]; exact s7
      simp only [aF, aH, aB, tyr, execOp, opd, aC, put, nth, und, sizeOf, nilCheck, aV, aO, fieldAddr, Nat.reduceAdd, gL, gI]
      refine kA (Row.write (off := 1) (v := .sl (n8 + 1) 0 (I.length + 1) none 37) s10 qL rfl (by show 1 + 1 ≤ 2; omega) rfl) ?_
      obtain ⟨hZ, hhZ⟩ : ∃ hZ, hZ = upd h10 s (some (.row (.l [.ptr y 0, .sl (n8 + 1) 0 (I.length + 1) none 37]) et)) := ⟨_, rfl⟩
      show Fe _ _ _ _ _ _ _ _ _ _ (upd h10 s (some (.row (.l [.ptr y 0, .sl (n8 + 1) 0 (I.length + 1) none 37]) et))) _
      rw [← hhZ]
      have sZ : Row hZ s [.ptr y 0, .sl (n8 + 1) 0 (I.length + 1) none 37] := ⟨et, by rw [hhZ, aU]⟩
      have oZ : ∀ j, j < n8 → j ≠ s → hZ j = h6 j := fun j h1 h2 => by rw [hhZ, aR _ _ h2, o10 j (by omega), o9 j (by omega), o7 j h2]
      have gZ : hZ (n8 + 1) = some (.row (.l (cells ++ bP (mH I A t'))) 61) := by rw [hhZ, aR _ _ (by omega)]; exact g10
      clear hhZ
      simp only [bS, aB, fgr, execOp, opd, ofValue, aC, put, nth, aA, Nat.reduceAdd, gB]
      have q0 : ∀ id, id ∈ [s] → id < n8 ∨ n8 + 1 ≤ id := fun id w => by rw [List.mem_singleton] at w; omega
      have q1 : ∀ id, id ∈ [n] → id < n8 ∨ n8 + 1 ≤ id := fun id w => by rw [List.mem_singleton] at w; omega
      have q2 : ∀ id, id ∈ [n4] → id < n8 ∨ n8 + 1 ≤ id := fun id w => by rw [List.mem_singleton] at w; omega
      have q3 : ∀ id, id ∈ ([] : List Nat) → id < n8 ∨ n8 + 1 ≤ id := fun id w => by cases w
      refine ⟨(by (try simp (disch := first | assumption | omega) only [cV, List.all_cons, List.all_nil, gB, gF]); repeat' (first | rfl | exact (Bool.or_eq_true _ _).mpr (.inr rfl) | refine (Bool.and_eq_true _ _).mpr ⟨?_, ?_⟩)), ?_⟩
      obtain ⟨⟨D', M1, i6, kk6, tt6⟩, gg6⟩ := y6
      have cl : cells.length = I.length * 37 := c1.rds.length
      simp only [Option.getD_some]
      refine ⟨rfl, fun j h1 h2 => by rw [oZ j (by omega) h2, KK h6 k6 j h1], y, _, sZ, ⟨⟨D', M1, i6.beside (by omega) fun j h1 h2 => oZ j h1 fun e => ?_, fun j w => ?_, fun j w => ?_⟩, gg6⟩, ⟨cells ++ bP (mH I A t'), ?_, fun j hj => ?_⟩, fun j w => ?_, sb6, fun j w => ?_⟩
      · subst e
        rcases h2 with h2 | h2
        · exact (tt6 j sb6).2 h2
        · exact (kk6 j (.inl (by omega))).2 h2
      · have := sc6 j w
        refine ⟨by omega, (kk6 j (.inl ?_)).2⟩
        have := sc j w
        omega
      · have := sc6 j w
        exact ⟨by omega, (tt6 j w).2⟩
      · rw [List.length_append]
        exact zE gZ (by rw [List.length_append, cl, bW (show (mH I A t').block.length = 32 from ha.b)]; omega) (fun k w => by cases w)
      · rw [List.length_append] at hj
        by_cases hlt : j < I.length
        · rw [List.getElem_append_left hlt, List.drop_append_of_le_length (by omega), List.take_append_of_le_length (by rw [List.length_drop]; omega)]
          exact c2 j hlt
        · have : j = I.length := by simp at hj; omega
          subst this
          rw [← cl, List.drop_left, List.take_of_length_le (by rw [bW (show (mH I A t').block.length = 32 from ha.b)]; omega)]
          simp only [List.getElem_append_right (Nat.le_refl _), Nat.sub_self, List.getElem_cons_zero]
          exact ⟨trivial, ha.b⟩
      · injection w with w
        refine ⟨by omega, fun ww => ?_⟩
        have := sc6 j ww
        omega
      · have := sc6 j w
        omega
    · subst e6
      have hno : eS L I A = none := by unfold eS; rw [hck, decide_eq_true hh, hd]; rfl
      rw [hno]
      simp only [aB, fgr, execOp, opd, aC, put, nth, aA, extract, aV, gL]
      refine cB ⟨rfl, ?_⟩
      simp only [aF, aH, aB, tyr, execOp, opd, aC, put, nth, und, sizeOf, aV, aO, fieldAddr, gL, gI]
      rw [bL (Row.one (off := 35) r56 (lC lb 2) ti2 rfl)]
      simp only [aF, aH, aB, tyr, execOp, opd, aC, put, nth, und, sizeOf, aV, aO, fieldAddr, Nat.reduceAdd, gL, gI]
      rw [bL (zY r26 ha.b)]
      simp only [aF, aH, aB, tyr, execOp, opd, aC, put, nth, und, sizeOf, bor, aJ, aK, intOp, bR, aV, aO, fieldAddr, Nat.reduceAdd, gL, gB, gI]
      rw [bL (Row.one (off := 36) r56 (lC lb 3) ti2 rfl)]
      simp only [aF, aH, aB, tyr, execOp, opd, aC, put, nth, und, sizeOf, aV, aO, fieldAddr, Nat.reduceAdd, gL, gI]
      rw [bL (zX r26 ha.b)]
      simp only [bS, aF, aH, aB, fgr, execOp, opd, ofValue, aC, put, nth, aA, bor, aJ, aK, intOp, bR, unOp, aW, branch, Nat.reduceAdd, gL, gB]
      refine ⟨(by (try simp (disch := first | assumption | omega) only [cV, List.all_cons, List.all_nil, gB, gF]); repeat' (first | rfl | exact (Bool.or_eq_true _ _).mpr (.inr rfl) | refine (Bool.and_eq_true _ _).mpr ⟨?_, ?_⟩)), ?_⟩
      exact ⟨rfl, fun j hj _ => KK h6 k6 j hj, q6⟩
  · have hno : eS L I A = none := by unfold eS; rw [hck, decide_eq_false hh]; rfl
    rw [hno]
    simp only [aB, fgr, execOp, opd, ofValue, aC, put, nth, aA, hh, gB]
    refine ⟨(by (try simp (disch := first | assumption | omega) only [cV, List.all_cons, List.all_nil, gB, gF]); repeat' (first | rfl | exact (Bool.or_eq_true _ _).mpr (.inr rfl) | refine (Bool.and_eq_true _ _).mpr ⟨?_, ?_⟩)), ?_⟩
    exact ⟨rfl, fun j hj _ => k2 j hj, q.old (by omega) fun j hj => k2 j hj⟩
theorem E7 {P S : List Ver} {w : Ver} (r : dD false (P ++ w :: S)) : pos false (P ++ w :: S) w = P.length := by
  have hm : w ∈ P ++ w :: S := List.mem_append_right _ (List.mem_cons_self ..)
  obtain ⟨hp, hw⟩ := pos_at r (mS r w) hm
  have hl : P.length < (P ++ w :: S).length := by simp
  have hw2 : (P ++ w :: S)[P.length] = w := by simp
  have e0 : fB w w = 0 := nQ.refl w
  rcases Nat.lt_trichotomy (pos false (P ++ w :: S) w) P.length with q | q | q
  · have := r.at_ hp hl q
    rw [hw, hw2] at this
    have : fB w w < 0 := this
    omega
  · exact q
  · have := r.at_ hl hp q
    rw [hw, hw2] at this
    have : fB w w < 0 := this
    omega
theorem KE {P S : List Ver} {w : Ver} (r : dD false (P ++ w :: S)) : kD (P ++ w :: S) w = P ++ S := by
  unfold kD hG
  rw [E7 r]
  simp
theorem yU {P S : List Ver} {w v : Ver} (r : dD false (P ++ w :: S)) : pK (P ++ w :: S) w v = P ++ v :: S := by
  unfold pK
  rw [E7 r]
  simp
def lZ (z : Int) (v : Ver) : Option Ver := if z < v.made then none else if z < v.spent ∧ 0 < v.spent then some (iR v 0 z32) else some v
def iH (z : Int) (L : List Ver) : List Ver := L.filterMap (lZ z)
theorem KH {L : List Ver} {i : Nat} (h : i < L.length) (z : Int) : iH z (L.take (i + 1)) = iH z (L.take i) ++ (lZ z L[i]).toList := by
  unfold iH
  rw [mA h, List.filterMap_append]
  cases e : lZ z L[i] <;> simp [e]
theorem IL.pre {h : Hp} {v : a9} {I : List Inf} (l : IL h v I) {k : Nat} (hk : k ≤ I.length) : IL h (jR 0 k v) (I.take k) := by
  obtain ⟨cells, c1, c2⟩ := l
  refine ⟨cells.take (k * 37), ?_, fun j hj => ?_⟩
  · rw [List.length_take, Nat.min_eq_left hk]
    exact c1.pre hk
  · rw [List.length_take] at hj
    obtain ⟨a, b⟩ := c2 j (by omega)
    rw [List.getElem_take]
    refine ⟨?_, b⟩
    rw [List.drop_take, List.take_take, Nat.min_eq_left (by omega)]
    exact a
theorem SR (Q : eB) (ks : List Kf) (K T : Nat → Prop) (v : a9) (s y n1 n2 : Nat) (z : Int) (L : List Ver) (h0 : Hp) (hKn : ∀ j, K j → j < n2) (hV : ∀ j, n1 ≤ j → j < n2 → K j) (hl : L.length ≤ 900000)
    (hv : VL h0 n1 n2 v L)
    (hT : ∀ (h : Hp) (n : Nat) (x4 x7 x8 x11 x29 x32 x43 : a9), (∀ j, K j → h j = h0 j) → Ixw K T h n y (iH z L) → n2 ≤ n → bK h n →
      dL env 22 none Q ks (.exit 1) (.ptr s 0 :: .int .i64 z :: a9.junk :: a9.junk :: x4 :: .ptr y 0 :: a9.junk :: x7 :: x8 :: a9.junk :: a9.junk :: x11 :: a9.junk :: a9.junk :: a9.junk :: a9.junk :: a9.junk :: a9.junk :: a9.junk :: a9.junk :: a9.junk :: a9.junk :: a9.junk :: a9.junk :: a9.junk :: a9.junk :: v :: .int .i64 (L.length : Nat) :: .int .i64 (L.length : Nat) :: x29 :: a9.junk :: a9.junk :: x32 :: a9.junk :: a9.junk :: a9.junk :: a9.junk :: a9.junk :: a9.junk :: a9.junk :: a9.junk :: a9.junk :: a9.junk :: x43 :: a9.junk :: a9.junk :: a9.junk :: a9.junk :: a9.junk :: a9.junk :: a9.junk :: a9.junk :: a9.junk :: a9.junk :: a9.junk :: a9.junk :: a9.junk :: a9.junk :: a9.junk :: a9.junk :: a9.junk :: a9.junk :: a9.junk :: a9.junk :: a9.junk :: a9.junk :: a9.junk :: a9.junk :: a9.junk :: a9.junk :: a9.junk :: a9.junk :: a9.junk :: a9.junk :: a9.junk :: []) h n) :
    ∀ (m i : Nat) (h : Hp) (n : Nat) (x4 x7 x8 x11 x29 x32 x43 : a9), i + m = L.length → (∀ j, K j → h j = h0 j) → Ixw K T h n y (iH z (L.take i) ++ L.drop i) → n2 ≤ n → bK h n →
      Run env 22 none Q (.loop CW) ks (.ptr s 0 :: .int .i64 z :: a9.junk :: a9.junk :: x4 :: .ptr y 0 :: a9.junk :: x7 :: x8 :: a9.junk :: a9.junk :: x11 :: a9.junk :: a9.junk :: a9.junk :: a9.junk :: a9.junk :: a9.junk :: a9.junk :: a9.junk :: a9.junk :: a9.junk :: a9.junk :: a9.junk :: a9.junk :: a9.junk :: v :: .int .i64 (L.length : Nat) :: .int .i64 (i : Nat) :: x29 :: a9.junk :: a9.junk :: x32 :: a9.junk :: a9.junk :: a9.junk :: a9.junk :: a9.junk :: a9.junk :: a9.junk :: a9.junk :: a9.junk :: a9.junk :: x43 :: a9.junk :: a9.junk :: a9.junk :: a9.junk :: a9.junk :: a9.junk :: a9.junk :: a9.junk :: a9.junk :: a9.junk :: a9.junk :: a9.junk :: a9.junk :: a9.junk :: a9.junk :: a9.junk :: a9.junk :: a9.junk :: a9.junk :: a9.junk :: a9.junk :: a9.junk :: a9.junk :: a9.junk :: a9.junk :: a9.junk :: a9.junk :: a9.junk :: a9.junk :: a9.junk :: a9.junk :: []) h n := by
  intro m
  induction m with
  | zero =>
    intro i h n x4 x7 x8 x11 x29 x32 x43 hm hk hy hn hf
    have : i = L.length := by omega
    subst this
    rw [List.take_length, List.drop_length, List.append_nil] at hy
    rw [bZ]
    have hcc : ¬ (((L.length : Nat) : Int) < ((L.length : Nat) : Int)) := by omega
    simp only [CW, bO, Try.f22, Option.getD_some, aB, fgr, execOp, opd, aC, put, nth, aA, bor, aJ, aK, intOp, Int.reduceNeg, List.getD_cons_zero, hcc, gL, gB]
    exact hT h n _ _ _ _ _ _ _ hk hy hn hf
  | succ m ih =>
    intro i h n x4 x7 x8 x11 x29 x32 x43 hm hk hy hn hf
    have hv' := hv.aT (h' := h) fun j a b => hk j (hV j a b)
    have hil : i < L.length := by omega
    have hcc : (((i : Nat) : Int) < ((L.length : Nat) : Int)) := by omega
    have w1 : IntKind.i64.wrap (((i : Nat) : Int) + 1) = ((i + 1 : Nat) : Int) := by rw [w64 (by omega) (by omega)]; omega
    obtain ⟨sw, va⟩ := hv'.at_ hil
    have hcs := KH hil z
    have hln : (iH z (L.take i) ++ L.drop i).length ≤ 900000 := by
      have h1 : (iH z (L.take i)).length ≤ (L.take i).length := List.length_filterMap_le _ _
      rw [List.length_append, List.length_drop]
      rw [List.length_take] at h1
      omega
    rw [← List.getElem_cons_drop hil] at hy hln
    generalize L[i] = w at *
    have ry := hy.rL
    have wy : w ∈ iH z (L.take i) ++ w :: L.drop (i + 1) := List.mem_append_right _ (List.mem_cons_self ..)
    rw [bZ]
    simp only [CW, bO, Try.f22, Option.getD_some, aB, fgr, execOp, opd, aC, put, nth, aA, bor, aJ, aK, intOp, Int.reduceNeg, List.getD_cons_zero, hcc, gL, gB]
    rw [aN (hv'.idx hil)]
    simp only [aB, execOp, opd, aC, put, nth]
    rw [aN (va.all n)]
    simp only [aB, execOp, aC, put]
    rw [cG eX rfl]
    simp only [aB, execOp, opd, aC, put, nth, cel]
    have kd := va.s.kind
    refine dW (v := .agg (aS w sw)) eX rfl (bV va.ok.h va.ok.b) (dV kd.2.1) hf fun H1 r1 p1 f1 => ?_
    replace r1 : Row H1 n (aS w sw) := r1
    have O1 : Old h H1 n := fun j hj => p1 j (by omega)
    have k1 : ∀ j, K j → H1 j = h0 j := fun j q => by rw [p1 j (by have := hKn j q; omega)]; exact hk j q
    have y1 := hy.old (n' := n + 1) (by omega) O1
    simp only [aB, tyr, fgr, execOp, opd, aC, put, nth, aA, und, sizeOf, aV, aO, fieldAddr, gL, gI]
    rw [aN (fJ r1 va.ok)]
    by_cases c1 : z < w.made
    · have ec : lZ z w = none := by unfold lZ; rw [if_pos c1]
      rw [ec] at hcs
      simp only [Option.toList_none, List.append_nil] at hcs
      simp only [aB, tyr, fgr, execOp, opd, aC, put, nth, aA, und, sizeOf, bor, aJ, aK, intOp, aV, aO, fieldAddr, gt_iff_lt, c1, gL, gB, gI]
      rw [aN (iC r1 va.ok)]
      simp only [aB, tyr, execOp, opd, aC, put, nth, und, sizeOf, aV, aO, fieldAddr, gL, gI]
      rw [aN (fJ r1 va.ok)]
      simp only [aB, hkr, execOp, opd, bC, aC, put, nth, aI, aD, gL]
      refine bB f1 (f34w w.hash w.pn w.made va.ok.h y1 hln f1) fun v6 h6 n6 hn6 f6 ⟨k6, hh⟩ => ?_
      rcases hh with ⟨hno, _⟩ | ⟨w2, hw2, hk2, e6, y6⟩
      · exact absurd (zJ w) (hno w wy)
      · subst e6
        have hww : w2 = w := jT ry hw2 wy hk2
        subst hww
        rw [KE ry, ← hcs] at y6
        simp only [aB, fgr, execOp, opd, ofValue, aC, put, nth, aA, bor, aJ, aK, intOp, bR, w1, gB]
        exact ih (i + 1) h6 n6 _ _ _ _ _ _ _ (by omega) (fun j q => by rw [k6 j q]; exact k1 j q) y6 (by omega) f6
    · simp only [aB, tyr, fgr, execOp, opd, aC, put, nth, aA, und, sizeOf, bor, aJ, aK, intOp, aV, aO, fieldAddr, gt_iff_lt, c1, gL, gB, gI]
      rw [aN (dU r1 va.ok)]
      by_cases c2 : z < w.spent
      · simp only [aB, tyr, execOp, opd, aC, put, nth, und, sizeOf, bor, aJ, aK, intOp, aV, aO, fieldAddr, gt_iff_lt, c2, gL, gB, gI]
        rw [aN (dU r1 va.ok)]
        by_cases c3 : 0 < w.spent
        · have ec : lZ z w = some (iR w 0 z32) := by unfold lZ; rw [if_neg c1, if_pos ⟨c2, c3⟩]
          rw [ec] at hcs
          simp only [aB, tyr, fgr, execOp, opd, ofValue, aC, put, nth, aA, und, sizeOf, bor, aJ, aK, intOp, aW, branch, aV, aO, fieldAddr, gt_iff_lt, c3, gL, gB, gI]
          rw [aN (iC r1 va.ok)]
          simp only [aB, tyr, execOp, opd, aC, put, nth, und, sizeOf, aV, aO, fieldAddr, gL, gI]
          rw [aN (fJ r1 va.ok)]
          simp only [aB, hkr, execOp, opd, bC, aC, put, nth, aI, aD, gL]
          refine bB f1 (f38w w.hash w.pn w.made va.ok.h y1 hln f1) fun v6 h6 n6 hn6 f6 ⟨k6, hh⟩ => ?_
          rcases hh with ⟨hno, _⟩ | ⟨w2, hw2, hk2, h2, e6, y6⟩
          · have := hno w wy (zJ w)
            omega
          · subst e6
            have hww : w2 = w := jT ry hw2 wy hk2
            subst hww
            rw [yU ry] at y6
            have e7 : iH z (L.take i) ++ iR w2 0 z32 :: L.drop (i + 1) = iH z (L.take (i + 1)) ++ L.drop (i + 1) := by rw [hcs]; simp
            rw [e7] at y6
            simp only [aB, fgr, execOp, opd, ofValue, aC, put, nth, aA, bor, aJ, aK, intOp, bR, w1, gB]
            exact ih (i + 1) h6 n6 _ _ _ _ _ _ _ (by omega) (fun j q => by rw [k6 j q]; exact k1 j q) y6 (by omega) f6
        · have ec : lZ z w = some w := by unfold lZ; rw [if_neg c1, if_neg (fun q => c3 q.2)]
          rw [ec] at hcs
          have e7 : iH z (L.take i) ++ w :: L.drop (i + 1) = iH z (L.take (i + 1)) ++ L.drop (i + 1) := by rw [hcs]; simp
          rw [e7] at y1
          simp only [aB, fgr, execOp, opd, ofValue, aC, put, nth, aA, bor, aJ, aK, intOp, bR, aW, branch, gt_iff_lt, c3, w1, gL, gB]
          exact ih (i + 1) H1 (n + 1) _ _ _ _ _ _ _ (by omega) k1 y1 (by omega) f1
      · have ec : lZ z w = some w := by unfold lZ; rw [if_neg c1, if_neg (fun q => c2 q.1)]
        rw [ec] at hcs
        have e7 : iH z (L.take i) ++ w :: L.drop (i + 1) = iH z (L.take (i + 1)) ++ L.drop (i + 1) := by rw [hcs]; simp
        rw [e7] at y1
        simp only [aB, fgr, execOp, opd, ofValue, aC, put, nth, aA, bor, aJ, aK, intOp, bR, aW, branch, gt_iff_lt, c2, w1, gL, gB]
        exact ih (i + 1) H1 (n + 1) _ _ _ _ _ _ _ (by omega) k1 y1 (by omega) f1
theorem f22 {W : Nat → Prop} {h : Hp} {n s : Nat} {L : List Ver} {I : List Inf} (q : St W h n s L I) (z : Int) (hI : I.length ≤ 900000) (hL : L.length ≤ 900000) (hf : bK h n) :
    Wp (aZ env (evalW env) 22 [.ptr s 0, .int .i64 z]) h n fun v' h' n' => (∀ j, j < n → j ≠ s → h' j = h j) ∧
      (((z < -1 ∨ ((I.length : Nat) : Int) - 1 < z) ∧ v' = .int .i64 221 ∧ St W h' n' s L I) ∨ (-1 ≤ z ∧ z ≤ ((I.length : Nat) : Int) - 1 ∧ v' = .int .i64 0 ∧ St W h' n' s (iH z L) (I.take (z + 1).toNat))) := by
  have sn := q.sn
  have qq := q
  obtain ⟨x, lv, rs, ix, il, sa, sb, sc⟩ := qq
  refine bI ff22 fi22 ?_
  simp only [UH, Try.f22, Option.getD_some, List.replicate, aB, fgr, hkr, execOp, opd, bC, ofValue, aC, put, nth, aA, aI, aD, ended, aP, aQ, Nat.reduceAdd, Nat.reduceSub, Int.reduceNeg, gL, gI]
  refine dZ (f66 s x lv h n rs) ?_
  simp only [aB, fgr, execOp, opd, ofValue, aC, put, nth, aA, bor, aJ, aK, intOp, Int.reduceNeg, gL, gB]
  by_cases c1 : z < -1
  · simp only [aB, fgr, execOp, opd, ofValue, aC, put, nth, aA, aW, branch, Int.reduceNeg, c1, gL, gB]
    exact ⟨fun j _ _ => trivial, .inl ⟨.inl trivial, q⟩⟩
  simp only [aB, hkr, execOp, opd, bC, aC, put, nth, aI, aD, Int.reduceNeg, c1, gL, gB]
  rw [aN (MJ s x lv I h n rs il (by omega))]
  by_cases c2 : ((I.length : Nat) : Int) - 1 < z
  · simp only [aB, fgr, execOp, opd, ofValue, aC, put, nth, aA, bor, aJ, aK, intOp, aW, branch, Int.reduceNeg, gt_iff_lt, c2, gL, gB]
    exact ⟨fun j _ _ => trivial, .inl ⟨.inr trivial, q⟩⟩
  simp only [aB, tyr, fgr, execOp, opd, ofValue, aC, put, nth, aA, und, sizeOf, bor, aJ, aK, intOp, aW, branch, nilCheck, aV, aO, fieldAddr, Int.reduceNeg, gt_iff_lt, c2, gL, gB, gI]
  rw [aN (rs.one (off := 0) rfl pV rfl)]
  simp only [aB, hkr, execOp, opd, bC, aC, put, nth, aI, aD, Int.reduceNeg, gL]
  have ixx := ix
  obtain ⟨⟨D0, M0, ixi, ixk, ixt⟩, ixg⟩ := ixx
  refine bB hf (f41 x L D0 M0 h n ixi (by omega) hf) fun v3 h3 n3 hn3 f3 ⟨y, M', e3, i3, hM, o3⟩ => ?_
  subst e3
  have y3 : Ixw (fun j => j < n) W h3 n3 y L := ⟨⟨D0, M', i3, fun j hj => ⟨by omega, fun w => by have := hM j w; omega⟩, fun j hj => ⟨by have := (ixt j hj).1; omega, (ixt j hj).2⟩⟩, ixg⟩
  simp only [aB, fgr, hkr, execOp, opd, bC, aC, put, nth, aA, aI, aD, Int.reduceNeg, gL]
  refine bB f3 (ZD y3.k hL f3) fun v4 h4 n4 hn4 f4 ⟨l4, o4⟩ => ?_
  have y4 := y3.grow hn4 o4
  simp only [aB, fgr, execOp, opd, bC, ofValue, aC, put, nth, aA, aI, builtin, dB, Int.reduceNeg, l4.len]
  refine SR _ _ (fun j => j < n ∨ (n3 ≤ j ∧ j < n4)) W v4 s y n3 n4 z L h4 (fun j w => by omega) (fun j a b => .inr ⟨a, b⟩) hL l4 ?_ L.length 0 h4 n4 _ _ _ _ _ _ _ (by omega) (fun j _ => rfl) (by simpa [iH] using y4) (Nat.le_refl _) f4
  intro h5 n5 x4 x7 x8 x11 x29 x32 x43 k5 y5 hn5 f5
  have K5 : ∀ j, j < n → h5 j = h j := fun j hj => by rw [k5 j (.inl hj), o4 j (by omega), o3 j hj]
  have rs5 : Row h5 s [.ptr x 0, lv] := rs.aT (K5 s sn)
  have il5 : IL h5 lv I := il.aT fun j w => K5 j (sa j w).1
  have w1 : IntKind.i64.wrap (z + 1) = ((z + 1).toNat : Int) := by rw [w64 (by omega) (by omega)]; omega
  have hk : (z + 1).toNat ≤ I.length := by omega
  simp only [aB, tyr, execOp, opd, aC, put, nth, und, sizeOf, nilCheck, aV, aO, fieldAddr, Int.reduceNeg, gL, gI]
  rw [aN (rs5.one (off := 1) rfl qL rfl)]
  simp only [aB, execOp, opd, opt, ofValue, aC, put, nth, bor, aJ, aK, intOp, bR, Int.reduceNeg, w1, gB]
  have il5' := il5
  obtain ⟨cells, cc1, cc2⟩ := il5'
  rw [aN (cc1.rds.NM cc1.roomy u57 PB rfl hk)]
  simp only [aB, hkr, execOp, opd, bC, aC, put, nth, aI, aD, Int.reduceNeg, gL]
  refine bB f5 (f71 (jR 0 (z + 1).toNat lv) (I.take (z + 1).toNat) h5 n5 (il5.pre hk) (by rw [List.length_take]; omega) f5) fun v6 h6 n6 hn6 f6 ⟨l6, i6, o6⟩ => ?_
  obtain ⟨et, hs6⟩ := rs5.aT (o6 s (by omega))
  simp only [aB, tyr, execOp, opd, aC, put, nth, und, sizeOf, nilCheck, aV, aO, fieldAddr, Int.reduceNeg, gL, gI]
  rw [eC (Row.write (off := 0) (v := .ptr y 0) hs6 pV rfl (by show 0 + 1 ≤ 2; omega) rfl)]
  obtain ⟨h7, hh7⟩ : ∃ h7, h7 = upd h6 s (some (.row (.l [.ptr y 0, lv]) et)) := ⟨_, rfl⟩
  show Ops _ _ _ _ _ _ _ _ (upd h6 s (some (.row (.l [.ptr y 0, lv]) et))) _
  rw [← hh7]
  have s7 : h7 s = some (.row (.l [.ptr y 0, lv]) et) := by rw [hh7, aU]
  have o7 : ∀ j, j ≠ s → h7 j = h6 j := fun j hj => by rw [hh7, aR _ _ hj]
  clear hh7
  have k6 := l6.kind
  simp only [aB, tyr, execOp, opd, aC, put, nth, und, sizeOf, nilCheck, aV, aO, fieldAddr, Int.reduceNeg, gL, gI]
  rw [eC (Row.write (off := 1) (v := v6) s7 qL (by rw [k6.1]; rfl) (by show 1 + 1 ≤ 2; omega) (by rw [k6.1]; simp [k6.2.1]))]
  rw [k6.1, show bX [a9.ptr y 0, lv] 1 [v6] = [a9.ptr y 0, v6] from rfl]
  obtain ⟨hZ, hhZ⟩ : ∃ hZ, hZ = upd h7 s (some (.row (.l [.ptr y 0, v6]) et)) := ⟨_, rfl⟩
  rw [← hhZ]
  have sZ : Row hZ s [.ptr y 0, v6] := ⟨et, by rw [hhZ, aU]⟩
  have oZ : ∀ j, j ≠ s → hZ j = h6 j := fun j h2 => by rw [hhZ, aR _ _ h2, o7 j h2]
  clear hhZ
  simp only [aB, fgr, execOp, opd, ofValue, aC, put, nth, aA, Int.reduceNeg, gB]
  obtain ⟨⟨D', M1, iy, kk6, tt6⟩, gg6⟩ := y5
  refine ⟨fun j h1 h2 => by rw [oZ j h2, o6 j (by omega), K5 j h1], .inr ⟨by omega, by omega, y, _, sZ, ⟨⟨D', M1, iy.beside (by omega) fun j h1 h2 => ?_, fun j w => ?_, fun j w => ?_⟩, gg6⟩, l6.aT fun j w => oZ j ?_, fun j w => ?_, sb, fun j w => ?_⟩⟩
  · rw [oZ j, o6 j h1]
    intro e
    subst e
    rcases h2 with h2 | h2
    · exact (tt6 j sb).2 h2
    · exact (kk6 j (.inl (by omega))).2 h2
  · have := sc j w
    exact ⟨by omega, (kk6 j (.inl this)).2⟩
  · have := sc j w
    exact ⟨by omega, (tt6 j w).2⟩
  · have := i6 j w
    omega
  · have := i6 j w
    refine ⟨by omega, fun ww => ?_⟩
    have := sc j ww
    omega
  · have := sc j w
    omega
theorem Ix.lt {h : Hp} {n x : Nat} {D M : Nat → Prop} {L : List Ver} (i : Ix h n D M x L) : ∀ j, (D j ∨ M j) → j < n := fun j w => by
  obtain ⟨⟨S, ⟨vl, vs, xl, xs, iv, mx, ml, ms, mn⟩, _⟩, _⟩ := i
  rcases w with w | w
  · exact iv.dn j w
  · exact (mn j w).1
theorem f28 {W : Nat → Prop} {h : Hp} {n s : Nat} {L : List Ver} {I : List Inf} (q : St W h n s L I) (hI : I.length ≤ 900000) (hL : L.length ≤ 900000) (hf : bK h n) :
    Wp (aZ env (evalW env) 28 [.ptr s 0]) h n fun v' h' n' => ∃ c, v' = .ptr c 0 ∧ n ≤ c ∧ St (fun j => W j ∨ j = c) h' n' c L I ∧ St (fun j => W j ∨ j = c) h' n' s L I ∧ Old h h' n := by
  have sn := q.sn
  obtain ⟨x, lv, rs, ix, il, sa, sb, sc⟩ := q
  refine bI ff28 fi28 ?_
  simp only [UC, Try.f28, Option.getD_some, List.replicate, aB, fgr, hkr, execOp, opd, bC, ofValue, aC, put, nth, aA, aI, aD, ended, aP, aQ, Nat.reduceSub, gL, gI]
  refine dZ (f66 s x lv h n rs) ?_
  simp only [aB, fgr, opd, aC, put, nth, aA]
  refine cB ⟨rfl, ?_⟩
  simp only [aF, aH, aB, tyr, execOp, opd, aC, put, nth, und, sizeOf, nilCheck, aV, aO, fieldAddr, Nat.reduceAdd, gL, gI]
  rw [bL (rs.one (off := 0) rfl pV rfl)]
  simp only [aF, hkr, execOp, opd, bC, aC, put, nth, aI, aD, Nat.reduceAdd, gL]
  obtain ⟨⟨D0, M0, ixi, ixk, ixt⟩, ixg⟩ := ix
  have ixs : Ix (only (fun j => decide (j ≠ s)) h) n D0 M0 x L := ixi.beside (Nat.le_refl _) fun j h1 h2 => gM (decide_eq_true fun e => by
    subst e
    rcases h2 with h2 | h2
    · exact (ixt j sb).2 h2
    · exact (ixk j sb).2 h2)
  refine vM (fun j => decide (j ≠ s)) hf (f41 x L D0 M0 _ n ixs (by omega) hf.only) fun v3 h3 n3 r3 w3 hr3 hn3 f3 ⟨y, M', e3, i3, hM, o3⟩ hin hout hr hw => ?_
  subst e3
  have O3 : Old h h3 n := fun j hj => by
    by_cases e : j = s
    · exact hout j hj (decide_eq_false (by simpa using e))
    · rw [hin j (.inl (decide_eq_true e)), o3 j hj, gM (decide_eq_true e)]
  have i3' : Ix h3 n3 D0 M' y L := i3.beside (Nat.le_refl _) fun j h1 h2 => by
    refine hin j ?_
    rcases h2 with h2 | h2
    · exact .inl (decide_eq_true fun e => (ixt s sb).2 (e ▸ h2))
    · exact .inr (hM j h2)
  have ns3 : s ∉ w3 := fun w => of_decide_eq_true (hw s w) rfl
  have rs3 := rs.aT (O3 s sn)
  simp only [aF, aH, aB, tyr, execOp, opd, aC, put, nth, und, sizeOf, nilCheck, aV, aO, fieldAddr, Nat.reduceAdd, gL, gI]
  rw [bL (rs3.one (off := 1) rfl qL rfl)]
  have il3 : IL h3 lv I := il.aT fun j w => O3 j (sa j w).1
  simp only [aF, hkr, execOp, opd, bC, aC, put, nth, aI, aD, Nat.reduceAdd, gL]
  refine dI f3 (f71 lv I h3 n3 il3 (by omega) f3) fun v4 h4 n4 r4 w4 hn4 f4 ⟨l4, i4, o4⟩ => ?_
  have k4 := l4.kind
  have b59 : build env 59 [(0, .ptr y 0), (1, v4)] = M.pure (.agg [.ptr y 0, v4]) := by
    obtain ⟨cells, c1, c2⟩ := l4
    generalize I.length = len at c1
    cases c1 <;> rfl
  simp only [aF, aH, execOp, opd, dA, aC, put, nth, Nat.reduceAdd, b59]
  refine EN (v := .agg [.ptr y 0, v4]) HL rfl f4 fun H5 r5 w5 g5 o5 f5 => ?_
  simp only [bS, aF, aH, aB, fgr, execOp, opd, aC, put, nth, aA, Nat.reduceAdd, gB]
  refine ⟨(by (try simp (disch := first | assumption | omega) only [cV, List.all_cons, List.all_nil, gB, gF]); repeat' (first | rfl | exact (Bool.or_eq_true _ _).mpr (.inr rfl) | refine (Bool.and_eq_true _ _).mpr ⟨?_, ?_⟩)), ?_⟩
  have O5 : ∀ j, j < n3 → H5 j = h3 j := fun j hj => by rw [o5 j (by omega), o4 j (by omega)]
  have old5 : Old h H5 n := fun j hj => by rw [O5 j (by omega), O3 j hj]
  have lt0 := ixi.lt
  have lt3 := i3'.lt
  have iZ : Ix H5 (n4 + 1) D0 M' y L := i3'.old (by omega) O5
  refine ⟨n4, rfl, by omega, ⟨y, v4, ⟨59, g5⟩, ⟨⟨D0, M', iZ, fun j w => ⟨?_, fun ww => ?_⟩, fun j w => ⟨?_, fun ww => ?_⟩⟩, ixg⟩, l4.aT fun j w => o5 j ?_, fun j w => ⟨?_, fun ww => ?_⟩, .inr rfl, fun j w => ?_⟩, ⟨x, lv, rs.aT (old5 s sn), ⟨⟨D0, M0, ixi.old (by omega) old5, fun j w => ⟨?_, fun ww => ?_⟩, fun j w => ⟨?_, fun ww => ?_⟩⟩, ixg⟩, il.aT fun j w => old5 j (sa j w).1, fun j w => ⟨?_, fun ww => ?_⟩, .inl sb, fun j w => ?_⟩, old5⟩
  · rcases w with w | w
    · have := sc j w; omega
    · omega
  · rcases w with w | w
    · have := sc j w; have := hM j ww; omega
    · have := lt3 j (.inr ww); omega
  · rcases w with w | w
    · have := sc j w; omega
    · omega
  · rcases w with w | w
    · exact (ixt j w).2 ww
    · have := lt3 j (.inl ww); omega
  · have := i4 j w; omega
  · have := i4 j w; omega
  · have := i4 j w
    rcases ww with ww | ww
    · have := sc j ww; omega
    · omega
  · rcases w with w | w
    · have := sc j w; omega
    · omega
  · rcases w with w | w
    · have := sc j w; omega
    · omega
  · rcases w with w | w
    · exact (ixk j w).2 ww
    · have := lt0 j (.inr ww); omega
  · rcases w with w | w
    · have := sc j w; omega
    · omega
  · rcases w with w | w
    · exact (ixt j w).2 ww
    · have := lt0 j (.inl ww); omega
  · have := (sa j w).1; omega
  · rcases ww with ww | ww
    · exact (sa j w).2 ww
    · have := (sa j w).1; omega
  · rcases w with w | w
    · have := sc j w; omega
    · omega
def yT (l : List Ver) : Int := l.foldl (fun n v => sN (n + v.value)) 0
theorem QF {l : List Ver} {i : Nat} (h : i < l.length) : yT (l.take (i + 1)) = sN (yT (l.take i) + l[i].value) := by
  unfold yT
  rw [mA h, List.foldl_append]; rfl
def DP (L : List Ver) (I : List Inf) (script : List UInt8) (z : Int) : Int := match nE I z with
  | some _ => yT (ofV L script z)
  | none => 0
theorem SN (Q : eB) (ks : List Kf) (v : a9) (a b : Nat) (l : List Ver) (h0 : Hp) (hl : l.length ≤ 900000) (hv : VL h0 a b v l)
    (hT : ∀ (h : Hp) (n : Nat) (x0 x1 x2 x9 x12 x20 x31 : a9), Old h0 h b → b ≤ n → bK h n → dL env 60 none Q ks (.exit 0) (x0 :: x1 :: x2 :: a9.junk :: a9.junk :: a9.junk :: .int .i64 0 :: .int .i64 0 :: a9.junk :: x9 :: .int .i64 (yT l) :: a9.junk :: x12 :: a9.junk :: a9.junk :: a9.junk :: a9.junk :: a9.junk :: a9.junk :: a9.junk :: x20 :: a9.junk :: a9.junk :: a9.junk :: a9.junk :: a9.junk :: a9.junk :: a9.junk :: v :: .int .i64 (l.length : Nat) :: .int .i64 (l.length : Nat) :: x31 :: a9.junk :: a9.junk :: a9.junk :: a9.junk :: a9.junk :: a9.junk :: a9.junk :: a9.junk :: []) h n) :
    ∀ (m i : Nat) (h : Hp) (n : Nat) (x0 x1 x2 x9 x12 x20 x31 : a9), i + m = l.length → Old h0 h b → b ≤ n → bK h n →
      Run env 60 none Q (.loop CQ) ks (x0 :: x1 :: x2 :: a9.junk :: a9.junk :: a9.junk :: .int .i64 0 :: .int .i64 0 :: a9.junk :: x9 :: .int .i64 (yT (l.take i)) :: a9.junk :: x12 :: a9.junk :: a9.junk :: a9.junk :: a9.junk :: a9.junk :: a9.junk :: a9.junk :: x20 :: a9.junk :: a9.junk :: a9.junk :: a9.junk :: a9.junk :: a9.junk :: a9.junk :: v :: .int .i64 (l.length : Nat) :: .int .i64 (i : Nat) :: x31 :: a9.junk :: a9.junk :: a9.junk :: a9.junk :: a9.junk :: a9.junk :: a9.junk :: a9.junk :: []) h n := by
  intro m
  induction m with
  | zero =>
    intro i h n x0 x1 x2 x9 x12 x20 x31 hm ho hn hf
    have : i = l.length := by omega
    subst this
    rw [List.take_length]
    rw [bZ]
    have hcc : ¬ (((l.length : Nat) : Int) < ((l.length : Nat) : Int)) := by omega
    simp only [CQ, bO, Try.f60, Option.getD_some, aB, fgr, execOp, opd, aC, put, nth, aA, bor, aJ, aK, intOp, List.getD_cons_zero, hcc, gL, gB]
    exact hT h n _ _ _ _ _ _ _ ho hn hf
  | succ m ih =>
    intro i h n x0 x1 x2 x9 x12 x20 x31 hm ho hn hf
    have hv' := hv.old (Nat.le_refl _) ho
    have hil : i < l.length := by omega
    have hcc : (((i : Nat) : Int) < ((l.length : Nat) : Int)) := by omega
    have w1 : IntKind.i64.wrap (((i : Nat) : Int) + 1) = ((i + 1 : Nat) : Int) := by rw [w64 (by omega) (by omega)]; omega
    obtain ⟨sw, va⟩ := hv'.at_ hil
    have hs := QF hil
    generalize l[i] = w at *
    rw [bZ]
    simp only [CQ, bO, Try.f60, Option.getD_some, aB, fgr, execOp, opd, aC, put, nth, aA, bor, aJ, aK, intOp, List.getD_cons_zero, hcc, gL, gB]
    rw [aN (hv'.idx hil)]
    simp only [aB, execOp, opd, aC, put, nth]
    rw [aN (va.all n)]
    simp only [aB, execOp, aC, put]
    rw [cG eX rfl]
    simp only [aB, execOp, opd, aC, put, nth, cel]
    have kd := va.s.kind
    refine dW (v := .agg (aS w sw)) eX rfl (bV va.ok.h va.ok.b) (dV kd.2.1) hf fun H1 r1 p1 f1 => ?_
    replace r1 : Row H1 n (aS w sw) := r1
    simp only [aB, tyr, fgr, execOp, opd, aC, put, nth, aA, und, sizeOf, aV, aO, fieldAddr, gL, gI]
    rw [aN (kL r1 va.ok)]
    have hs' : IntKind.i64.wrap (yT (l.take i) + w.value) = yT (l.take (i + 1)) := hs.symm
    simp only [aB, fgr, execOp, opd, ofValue, aC, put, nth, aA, bor, aJ, aK, intOp, bR, w1, hs', gB]
    exact ih (i + 1) H1 (n + 1) _ _ _ _ _ _ _ (by omega) (fun j hj => by rw [p1 j (by omega), ho j hj]) (by omega) f1
theorem f60 {W : Nat → Prop} {h : Hp} {n s : Nat} {L : List Ver} {I : List Inf} (q : St W h n s L I) (sv : a9) (script : List UInt8) (z : Int) (hb : Bytes h sv script) (hsn : ∀ j, bD sv = some j → j < n) (hI : I.length ≤ 900000) (hL : L.length ≤ 900000) (hf : bK h n) :
    Wp (aZ env (evalW env) 60 [.ptr s 0, sv, .int .i64 z]) h n fun v' h' n' => v' = .tup [.int .i64 (DP L I script z), .int .i64 (AW (nE I z))] ∧ Old h h' n := by
  refine bI ff60 fi60 ?_
  simp only [TY, Try.f60, Option.getD_some, List.replicate, aB, fgr, hkr, execOp, opd, bC, ofValue, aC, put, nth, aA, aI, aD, ended, aP, aQ, Nat.reduceAdd, Nat.reduceSub, gL, gI]
  refine bB hf (f25 q z (by omega) hf) fun v3 h3 n3 hn3 f3 ⟨e3, ob3, o3⟩ => ?_
  subst e3
  simp only [aB, execOp, opd, aC, put, nth, extract, aV, gL]
  rw [cG gJ rfl]
  simp only [aB, execOp, opd, aC, put, nth, cel]
  refine dW (v := .agg (bP ((nE I z).getD gR))) gJ rfl (bW ob3) (fA _) f3 fun H4 r4 o4 f4 => ?_
  have O4 : Old h H4 n := fun j hj => by rw [o4 j (by omega), o3 j hj]
  have q4 := q.old (n' := n3 + 1) (by omega) O4
  cases hi : nE I z with
  | none =>
    have hc : DP L I script z = 0 := by unfold DP; rw [hi]
    rw [hc]
    simp only [aB, fgr, execOp, opd, ofValue, aC, put, nth, aA, bor, aJ, aK, intOp, Int.reduceEq, AW, gB, gI]
    exact O4
  | some i =>
    have hc : DP L I script z = yT (ofV L script z) := by unfold DP; rw [hi]
    rw [hc]
    obtain ⟨x, lv, rs, ix, il, sa, sb, sc⟩ := q4
    simp only [aB, tyr, fgr, execOp, opd, ofValue, aC, put, nth, aA, und, sizeOf, bor, aJ, aK, intOp, nilCheck, aV, aO, fieldAddr, bne_self_eq_false, AW, gL, gB, gI]
    rw [aN (rs.one (off := 0) rfl pV rfl)]
    simp only [aB, hkr, execOp, opd, bC, aC, put, nth, aI, aD, gL]
    have hb4 : Bytes H4 sv script := hb.aT fun j w => O4 j (hsn j w)
    refine bB f4 (f43k sv script z ix.k hb4 (fun j w => by have := hsn j w; omega) hL f4) fun v5 h5 n5 hn5 f5 ⟨l5, o5⟩ => ?_
    simp only [aB, fgr, execOp, opd, bC, ofValue, aC, put, nth, aA, aI, builtin, dB, l5.len]
    have hlen : (ofV L script z).length ≤ 900000 := Nat.le_trans (List.length_filter_le _ _) hL
    refine SN _ _ v5 (n3 + 1) n5 (ofV L script z) h5 hlen l5 ?_ (ofV L script z).length 0 h5 n5 _ _ _ _ _ _ _ (by omega) (Old.refl _ _) (Nat.le_refl _) f5
    intro h6 n6 x0 x1 x2 x9 x12 x20 x31 o6 hn6 f6
    simp only [aB, fgr, execOp, opd, ofValue, aC, put, nth, aA, gB]
    exact fun j hj => by rw [o6 j (by omega), o5 j (by omega), O4 j hj]
theorem k48 : Try.prog.cellsOf 48 = 65 := by kernel_rfl
theorem k43 : Try.prog.cellsOf 43 = 1 := by kernel_rfl
theorem k44 : Try.prog.cellsOf 44 = 1 := by kernel_rfl
theorem k46 : Try.prog.cellsOf 46 = 37 := by kernel_rfl
theorem T1 : Try.prog.cellsOf 105 = 40 := by kernel_rfl
theorem ON {vs : List a9} (ha : Arg Try.prog 48 vs) : ∃ s : Spd, vs = eO s ∧ s.Ok ∧ 0 ≤ s.pn := by
  obtain ⟨hl, he⟩ := ha.kS Try.underlying48
  rw [k48] at hl
  have q0 : Arg Try.prog 28 ((vs.drop 0).take (Try.prog.cellsOf 28)) := he 0 _ rfl
  have q1 : Arg Try.prog 25 ((vs.drop 33).take (Try.prog.cellsOf 25)) := he 1 _ rfl
  rw [k28] at q0
  rw [k25] at q1
  obtain ⟨hash, pn, e0, hh, hp⟩ := yK q0
  obtain ⟨by_, e1, hby⟩ := rU q1
  refine ⟨⟨hash, pn, by_⟩, ?_, ⟨hh, hby⟩, hp⟩
  have c0 := m4 vs 0 33
  rw [List.drop_zero] at c0
  rw [List.drop_zero] at e0
  rw [e0, m4 vs (0 + 33) 32, e1, List.drop_eq_nil_of_le (show vs.length ≤ 0 + 33 + 32 by omega)] at c0
  rw [c0]
  simp [eO]
structure C3 (a : a9) (vs : List Ver) (xs : List a9) : Prop where
  rd : ∀ h, Rds h 70 a vs.length xs
  id : bD a = none
  len : vs.length ≤ maxLen
  at_ : ∀ j (hj : j < vs.length), ∃ sv, (xs.drop (j * 70)).take 70 = aS vs[j] sv ∧ DT vs[j] sv
theorem VB {a : a9} (ha : Arg Try.prog 43 [a]) : ∃ vs xs, C3 a vs xs := by
  rcases ha.oT Try.underlying43 (by rw [k31]; omega) with h | ⟨f, len, h, hl, hx⟩
  · injection h with h; subst h
    exact ⟨[], [], fun h => .nils, rfl, Nat.zero_le _, fun j hj => by simp at hj⟩
  · injection h with h
    subst h
    rw [k31] at hx ⊢
    have each : ∀ i, ∃ p : Ver × a9, i < len → cut f (i * 70) 70 = aS p.1 p.2 ∧ DT p.1 p.2 := fun i => by
      by_cases hi : i < len
      · obtain ⟨v, sv, e, hv⟩ := OM (hx i hi)
        exact ⟨(v, sv), fun _ => ⟨e, hv⟩⟩
      · exact ⟨(noV, .nils), fun q => absurd q hi⟩
    obtain ⟨b, hb⟩ := Classical.axiomOfChoice each
    refine ⟨(List.range len).map fun i => (b i).1, cut f 0 (len * 70), fun h => ?_, rfl, by simpa using hl, fun j hj => ?_⟩
    · have := Rds.isl (h := h) (sz := 70) f 0 len (cut f 0 (len * 70)) (by rw [zR]) (fun j hj => by rw [rP])
      simpa using this
    · simp only [List.length_map, List.length_range] at hj
      simp only [List.getElem_map, List.getElem_range]
      rw [zQ _ _ _ _ _ (by omega), Nat.zero_add]
      exact ⟨(b j).2, hb j hj⟩
structure F6 (a : a9) (ss : List Spd) (xs : List a9) : Prop where
  rd : ∀ h, Rds h 65 a ss.length xs
  id : bD a = none
  len : ss.length ≤ maxLen
  at_ : ∀ j (hj : j < ss.length), (xs.drop (j * 65)).take 65 = eO ss[j] ∧ ss[j].Ok ∧ 0 ≤ ss[j].pn
theorem VC {a : a9} (ha : Arg Try.prog 44 [a]) : ∃ ss xs, F6 a ss xs := by
  rcases ha.oT Try.underlying44 (by rw [k48]; omega) with h | ⟨f, len, h, hl, hx⟩
  · injection h with h; subst h
    exact ⟨[], [], fun h => .nils, rfl, Nat.zero_le _, fun j hj => by simp at hj⟩
  · injection h with h
    subst h
    rw [k48] at hx ⊢
    have each : ∀ i, ∃ p : Spd, i < len → cut f (i * 65) 65 = eO p ∧ p.Ok ∧ 0 ≤ p.pn := fun i => by
      by_cases hi : i < len
      · obtain ⟨v, e, hv⟩ := ON (hx i hi)
        exact ⟨v, fun _ => ⟨e, hv⟩⟩
      · exact ⟨⟨[], 0, []⟩, fun q => absurd q hi⟩
    obtain ⟨b, hb⟩ := Classical.axiomOfChoice each
    refine ⟨(List.range len).map fun i => b i, cut f 0 (len * 65), fun h => ?_, rfl, by simpa using hl, fun j hj => ?_⟩
    · have := Rds.isl (h := h) (sz := 65) f 0 len (cut f 0 (len * 65)) (by rw [zR]) (fun j hj => by rw [rP])
      simpa using this
    · simp only [List.length_map, List.length_range] at hj
      simp only [List.getElem_map, List.getElem_range]
      rw [zQ _ _ _ _ _ (by omega), Nat.zero_add]
      exact hb j hj
structure qJ (A : App) (mv sv : a9) : Prop where
  m : ∃ xs, C3 mv A.made xs
  s : ∃ xs, F6 sv A.spends xs
  b : A.block.length = 32
theorem OO {vs : List a9} (ha : Arg Try.prog 46 vs) : ∃ A mv sv, vs = bH A mv sv ∧ qJ A mv sv := by
  obtain ⟨hl, he⟩ := ha.kS Try.underlying46
  rw [k46] at hl
  have q0 : Arg Try.prog 3 ((vs.drop 0).take (Try.prog.cellsOf 3)) := he 0 _ rfl
  have q1 : Arg Try.prog 25 ((vs.drop 1).take (Try.prog.cellsOf 25)) := he 1 _ rfl
  have q2 : Arg Try.prog 43 ((vs.drop 33).take (Try.prog.cellsOf 43)) := he 2 _ rfl
  have q3 : Arg Try.prog 44 ((vs.drop 34).take (Try.prog.cellsOf 44)) := he 3 _ rfl
  have q4 : Arg Try.prog 2 ((vs.drop 35).take (Try.prog.cellsOf 2)) := he 4 _ rfl
  have q5 : Arg Try.prog 2 ((vs.drop 36).take (Try.prog.cellsOf 2)) := he 5 _ rfl
  rw [k3] at q0
  rw [k25] at q1
  rw [k43] at q2
  rw [k44] at q3
  rw [k2] at q4 q5
  obtain ⟨height, e0, _⟩ := q0.cQ Try.underlying3
  obtain ⟨block, e1, hb⟩ := rU q1
  obtain ⟨mv, e2⟩ : ∃ mv, (vs.drop 33).take 1 = [mv] := List.length_eq_one_iff.1 (by simp; omega)
  obtain ⟨sv, e3⟩ : ∃ sv, (vs.drop 34).take 1 = [sv] := List.length_eq_one_iff.1 (by simp; omega)
  rw [e2] at q2
  rw [e3] at q3
  obtain ⟨made, xs, hm⟩ := VB q2
  obtain ⟨spends, ys, hs⟩ := VC q3
  obtain ⟨burnt, e4, _⟩ := q4.cQ Try.underlying2
  obtain ⟨left, e5, _⟩ := q5.cQ Try.underlying2
  refine ⟨⟨height, block, made, spends, burnt, left⟩, mv, sv, ?_, ⟨xs, hm⟩, ⟨ys, hs⟩, hb⟩
  have c0 := m4 vs 0 1
  rw [List.drop_zero] at c0
  rw [List.drop_zero] at e0
  rw [e0, m4 vs (0 + 1) 32, e1, m4 vs (0 + 1 + 32) 1, e2, m4 vs (0 + 1 + 32 + 1) 1, e3, m4 vs (0 + 1 + 32 + 1 + 1) 1, e4, m4 vs (0 + 1 + 32 + 1 + 1 + 1) 1, e5, List.drop_eq_nil_of_le (show vs.length ≤ 0 + 1 + 32 + 1 + 1 + 1 + 1 by omega)] at c0
  rw [c0]
  simp [bH]
structure OpS where
  kind : Int
  A : App
  next : Bool
  num : Int
def cU (o : OpS) (mv sv : a9) : List a9 := .int .i64 o.kind :: (bH o.A mv sv ++ [.bool o.next, .int .i64 o.num])
theorem VD {vs : List a9} (ha : Arg Try.prog 105 vs) : ∃ o mv sv, vs = cU o mv sv ∧ qJ o.A mv sv ∧ (Lit.int .i64 o.num).wf = true := by
  obtain ⟨hl, he⟩ := ha.kS Try.underlying105
  rw [T1] at hl
  have q0 : Arg Try.prog 3 ((vs.drop 0).take (Try.prog.cellsOf 3)) := he 0 _ rfl
  have q1 : Arg Try.prog 46 ((vs.drop 1).take (Try.prog.cellsOf 46)) := he 1 _ rfl
  have q2 : Arg Try.prog 4 ((vs.drop 38).take (Try.prog.cellsOf 4)) := he 2 _ rfl
  have q3 : Arg Try.prog 3 ((vs.drop 39).take (Try.prog.cellsOf 3)) := he 3 _ rfl
  rw [k3] at q0 q3
  rw [k46] at q1
  rw [k4] at q2
  obtain ⟨kind, e0, _⟩ := q0.cQ Try.underlying3
  obtain ⟨A, mv, sv, e1, hA⟩ := OO q1
  obtain ⟨nx, e2⟩ := q2.jB Try.underlying4
  obtain ⟨num, e3, hw⟩ := q3.cQ Try.underlying3
  refine ⟨⟨kind, A, nx, num⟩, mv, sv, ?_, hA, hw⟩
  have c0 := m4 vs 0 1
  rw [List.drop_zero] at c0
  rw [List.drop_zero] at e0
  rw [e0, m4 vs (0 + 1) 37, e1, m4 vs (0 + 1 + 37) 1, e2, m4 vs (0 + 1 + 37 + 1) 1, e3, List.drop_eq_nil_of_le (show vs.length ≤ 0 + 1 + 37 + 1 + 1 by omega)] at c0
  rw [c0]
  simp [cU]
structure tJ (a : a9) (os : List OpS) (xs : List a9) : Prop where
  rd : ∀ h, Rds h 40 a os.length xs
  id : bD a = none
  len : os.length ≤ maxLen
  at_ : ∀ j (hj : j < os.length), ∃ mv sv, (xs.drop (j * 40)).take 40 = cU os[j] mv sv ∧ qJ os[j].A mv sv ∧ (Lit.int .i64 os[j].num).wf = true
theorem LQ {a : a9} (ha : Arg Try.prog 101 [a]) : ∃ os xs, tJ a os xs := by
  rcases ha.oT Try.underlying101 (by rw [T1]; omega) with h | ⟨f, len, h, hl, hx⟩
  · injection h with h; subst h
    exact ⟨[], [], fun h => .nils, rfl, Nat.zero_le _, fun j hj => by simp at hj⟩
  · injection h with h
    subst h
    rw [T1] at hx ⊢
    have each : ∀ i, ∃ p : OpS × a9 × a9, i < len → cut f (i * 40) 40 = cU p.1 p.2.1 p.2.2 ∧ qJ p.1.A p.2.1 p.2.2 ∧ (Lit.int .i64 p.1.num).wf = true := fun i => by
      by_cases hi : i < len
      · obtain ⟨o, mv, sv, e⟩ := VD (hx i hi)
        exact ⟨(o, mv, sv), fun _ => e⟩
      · exact ⟨(⟨0, ⟨0, [], [], [], 0, 0⟩, false, 0⟩, .nils, .nils), fun q => absurd q hi⟩
    obtain ⟨b, hb⟩ := Classical.axiomOfChoice each
    refine ⟨(List.range len).map fun i => (b i).1, cut f 0 (len * 40), fun h => ?_, rfl, by simpa using hl, fun j hj => ?_⟩
    · have := Rds.isl (h := h) (sz := 40) f 0 len (cut f 0 (len * 40)) (by rw [zR]) (fun j hj => by rw [rP])
      simpa using this
    · simp only [List.length_map, List.length_range] at hj
      simp only [List.getElem_map, List.getElem_range]
      rw [zQ _ _ _ _ _ (by omega), Nat.zero_add]
      exact ⟨(b j).2.1, (b j).2.2, hb j hj⟩
theorem wR : und env 101 = M.pure (.slice 105) := rfl
theorem F7 : sizeOf env 105 = M.pure 40 := rfl
theorem WW {o : OpS} {mv sv : a9} (hb : o.A.block.length = 32) : (cU o mv sv)[34]? = some mv := by
  unfold cU
  rw [List.getElem?_cons_succ, List.getElem?_append_left (by rw [cH hb]; omega)]
  exact mP hb 0
theorem pS_s {o : OpS} {mv sv : a9} (hb : o.A.block.length = 32) : (cU o mv sv)[35]? = some sv := by
  unfold cU
  rw [List.getElem?_cons_succ, List.getElem?_append_left (by rw [cH hb]; omega)]
  exact mP hb 1
def xN (v : Ver) : Bool := decide (200 < v.script.length)
def nO (o : OpS) : Bool := decide (20 < o.A.made.length) || decide (20 < o.A.spends.length) || o.A.made.any xN
def lE (os : List OpS) : Bool := decide (30 < os.length) || os.any nO
theorem J7 (Q : eB) (ks : List Kf) (a mv sv : a9) (os : List OpS) (xs ys : List a9) (i : Nat) (o : OpS) (h : Hp) (n : Nat) (ha : tJ a os xs) (hi : i < os.length) (he : (xs.drop (i * 40)).take 40 = cU o mv sv) (hb : o.A.block.length = 32) (hm : C3 mv o.A.made ys)
    (hq : ∀ (x2 x4 x7 x11 x30 x39 x52 : a9), o.A.made.any xN = false → dL env 57 none Q ks (.exit 2) (a :: a9.junk :: x2 :: .int .i64 (i : Nat) :: x4 :: a9.junk :: a9.junk :: x7 :: a9.junk :: .int .i64 (os.length : Nat) :: .int .i64 (i : Nat) :: x11 :: a9.junk :: a9.junk :: a9.junk :: a9.junk :: a9.junk :: a9.junk :: a9.junk :: a9.junk :: a9.junk :: a9.junk :: a9.junk :: a9.junk :: a9.junk :: a9.junk :: a9.junk :: a9.junk :: a9.junk :: a9.junk :: x30 :: a9.junk :: a9.junk :: a9.junk :: a9.junk :: a9.junk :: a9.junk :: .int .i64 (o.A.made.length : Nat) :: .int .i64 (o.A.made.length : Nat) :: x39 :: a9.junk :: a9.junk :: a9.junk :: a9.junk :: a9.junk :: a9.junk :: a9.junk :: a9.junk :: a9.junk :: a9.junk :: a9.junk :: a9.junk :: x52 :: a9.junk :: a9.junk :: []) h n)
    (hr : ∀ (x0 x3 x4 x7 x9 x10 x11 x30 x37 x38 x39 x52 : a9), o.A.made.any xN = true → dL env 57 none Q ks .ret (x0 :: a9.junk :: .int .i64 1 :: x3 :: x4 :: a9.junk :: a9.junk :: x7 :: a9.junk :: x9 :: x10 :: x11 :: a9.junk :: a9.junk :: a9.junk :: a9.junk :: a9.junk :: a9.junk :: a9.junk :: a9.junk :: a9.junk :: a9.junk :: a9.junk :: a9.junk :: a9.junk :: a9.junk :: a9.junk :: a9.junk :: a9.junk :: a9.junk :: x30 :: a9.junk :: a9.junk :: a9.junk :: a9.junk :: a9.junk :: a9.junk :: x37 :: x38 :: x39 :: a9.junk :: a9.junk :: a9.junk :: a9.junk :: a9.junk :: a9.junk :: a9.junk :: a9.junk :: a9.junk :: a9.junk :: a9.junk :: a9.junk :: x52 :: a9.junk :: a9.junk :: []) h n) :
    ∀ (m k : Nat) (x2 x4 x7 x11 x30 x39 x52 : a9), k + m = o.A.made.length → (o.A.made.take k).any xN = false →
    Run env 57 none Q (.loop CT) ks (a :: a9.junk :: x2 :: .int .i64 (i : Nat) :: x4 :: a9.junk :: a9.junk :: x7 :: a9.junk :: .int .i64 (os.length : Nat) :: .int .i64 (i : Nat) :: x11 :: a9.junk :: a9.junk :: a9.junk :: a9.junk :: a9.junk :: a9.junk :: a9.junk :: a9.junk :: a9.junk :: a9.junk :: a9.junk :: a9.junk :: a9.junk :: a9.junk :: a9.junk :: a9.junk :: a9.junk :: a9.junk :: x30 :: a9.junk :: a9.junk :: a9.junk :: a9.junk :: a9.junk :: a9.junk :: .int .i64 (o.A.made.length : Nat) :: .int .i64 (k : Nat) :: x39 :: a9.junk :: a9.junk :: a9.junk :: a9.junk :: a9.junk :: a9.junk :: a9.junk :: a9.junk :: a9.junk :: a9.junk :: a9.junk :: a9.junk :: x52 :: a9.junk :: a9.junk :: []) h n := by
  have hlen := hm.len
  have hmax : maxLen = 9223372036854775807 := rfl
  intro m
  induction m with
  | zero =>
    intro k x2 x4 x7 x11 x30 x39 x52 hk hs
    have : k = o.A.made.length := by omega
    subst this
    have hc : ¬ ((o.A.made.length : Nat) : Int) < ((o.A.made.length : Nat) : Int) := by omega
    rw [bZ]
    simp only [CT, bO, Try.f57, Option.getD_some, aB, fgr, execOp, opd, aC, put, nth, aA, bor, aJ, aK, intOp, List.getD_cons_zero, List.getD_cons_succ, hc, gL, gB]
    rw [List.take_length] at hs
    exact hq _ _ _ _ _ _ _ hs
  | succ m ih =>
    intro k x2 x4 x7 x11 x30 x39 x52 hk hs
    have hil : k < o.A.made.length := by omega
    have hc : ((k : Nat) : Int) < ((o.A.made.length : Nat) : Int) := by omega
    have hwr : IntKind.i64.wrap (((k : Nat) : Int) + 1) = ((k + 1 : Nat) : Int) := by rw [w64 (by omega) (by omega)]; omega
    have hr0 := ha.rd h
    have m1 := iX hr0 (by omega) (i * 40) 1
    have m2 := iX hr0 (by omega) (i * 40 + 1) 33
    have hx : xs[i * 40 + 1 + 33]? = some mv := by
      rw [show i * 40 + 1 + 33 = i * 40 + 34 by omega, piece he (by omega)]
      exact WW hb
    obtain ⟨sw, e, hv⟩ := hm.at_ k hil
    have hr1 := hm.rd h
    have m3 := iX hr1 (by omega) (k * 70) 35
    have hy : ys[k * 70 + 35]? = some sw := by
      rw [piece e (by omega)]
      exact j4 hv.ok.h 2
    rw [bZ]
    simp only [CT, bO, Try.f57, Option.getD_some, aB, fgr, execOp, opd, aC, put, nth, aA, bor, aJ, aK, intOp, List.getD_cons_zero, List.getD_cons_succ, hc, gL, gB]
    rw [aN (hr0.idx (j := i) wR F7 rfl hi)]
    simp only [aB, tyr, execOp, opd, aC, put, nth, und, sizeOf, aV, fieldAddr, m1, m2, gL]
    rw [aN (hr0.load (k := i * 40 + 1 + 33) sG rfl hx)]
    simp only [aB, execOp, opd, aC, put, nth]
    rw [aN (hr1.idx (j := k) u43 HA rfl hil)]
    simp only [aB, tyr, execOp, opd, aC, put, nth, und, sizeOf, aV, fieldAddr, m3, gL]
    rw [aN (hr1.load (k := k * 70 + 35) tK rfl hy)]
    by_cases hov : 200 < o.A.made[k].script.length
    · have hc2 : 200 < ((o.A.made[k].script.length : Nat) : Int) := by omega
      simp only [aB, fgr, execOp, opd, bC, ofValue, aC, put, nth, aA, aI, builtin, dB, bor, aJ, aK, intOp, gt_iff_lt, (hv.s.bytes h).cI t29, hc2, gB]
      exact hr _ _ _ _ _ _ _ _ _ _ _ _ (List.any_eq_true.2 ⟨_, List.getElem_mem hil, decide_eq_true hov⟩)
    · have hc2 : ¬ 200 < ((o.A.made[k].script.length : Nat) : Int) := by omega
      simp only [aB, fgr, execOp, opd, bC, ofValue, aC, put, nth, aA, aI, builtin, dB, bor, aJ, aK, intOp, bR, gt_iff_lt, (hv.s.bytes h).cI t29, hc2, hwr, gB]
      refine ih (k + 1) _ _ _ _ _ _ _ (by omega) ?_
      rw [List.take_add_one, List.getElem?_eq_getElem hil, Option.toList_some, List.any_append, hs]
      simp [xN, hov]
theorem J8 (Q : eB) (ks : List Kf) (a : a9) (os : List OpS) (xs : List a9) (h : Hp) (n : Nat) (ha : tJ a os xs)
    (hq : ∀ (x2 x3 x4 x7 x11 x30 x37 x38 x39 x52 : a9), os.any nO = false → dL env 57 none Q ks (.exit 0) (a :: a9.junk :: x2 :: x3 :: x4 :: a9.junk :: a9.junk :: x7 :: a9.junk :: .int .i64 (os.length : Nat) :: .int .i64 (os.length : Nat) :: x11 :: a9.junk :: a9.junk :: a9.junk :: a9.junk :: a9.junk :: a9.junk :: a9.junk :: a9.junk :: a9.junk :: a9.junk :: a9.junk :: a9.junk :: a9.junk :: a9.junk :: a9.junk :: a9.junk :: a9.junk :: a9.junk :: x30 :: a9.junk :: a9.junk :: a9.junk :: a9.junk :: a9.junk :: a9.junk :: x37 :: x38 :: x39 :: a9.junk :: a9.junk :: a9.junk :: a9.junk :: a9.junk :: a9.junk :: a9.junk :: a9.junk :: a9.junk :: a9.junk :: a9.junk :: a9.junk :: x52 :: a9.junk :: a9.junk :: []) h n)
    (hr : ∀ (x0 x3 x4 x7 x9 x10 x11 x30 x37 x38 x39 x52 : a9), os.any nO = true → dL env 57 none Q ks .ret (x0 :: a9.junk :: .int .i64 1 :: x3 :: x4 :: a9.junk :: a9.junk :: x7 :: a9.junk :: x9 :: x10 :: x11 :: a9.junk :: a9.junk :: a9.junk :: a9.junk :: a9.junk :: a9.junk :: a9.junk :: a9.junk :: a9.junk :: a9.junk :: a9.junk :: a9.junk :: a9.junk :: a9.junk :: a9.junk :: a9.junk :: a9.junk :: a9.junk :: x30 :: a9.junk :: a9.junk :: a9.junk :: a9.junk :: a9.junk :: a9.junk :: x37 :: x38 :: x39 :: a9.junk :: a9.junk :: a9.junk :: a9.junk :: a9.junk :: a9.junk :: a9.junk :: a9.junk :: a9.junk :: a9.junk :: a9.junk :: a9.junk :: x52 :: a9.junk :: a9.junk :: []) h n) :
    ∀ (m i : Nat) (x2 x3 x4 x7 x11 x30 x37 x38 x39 x52 : a9), i + m = os.length → (os.take i).any nO = false →
    Run env 57 none Q (.loop CU) ks (a :: a9.junk :: x2 :: x3 :: x4 :: a9.junk :: a9.junk :: x7 :: a9.junk :: .int .i64 (os.length : Nat) :: .int .i64 (i : Nat) :: x11 :: a9.junk :: a9.junk :: a9.junk :: a9.junk :: a9.junk :: a9.junk :: a9.junk :: a9.junk :: a9.junk :: a9.junk :: a9.junk :: a9.junk :: a9.junk :: a9.junk :: a9.junk :: a9.junk :: a9.junk :: a9.junk :: x30 :: a9.junk :: a9.junk :: a9.junk :: a9.junk :: a9.junk :: a9.junk :: x37 :: x38 :: x39 :: a9.junk :: a9.junk :: a9.junk :: a9.junk :: a9.junk :: a9.junk :: a9.junk :: a9.junk :: a9.junk :: a9.junk :: a9.junk :: a9.junk :: x52 :: a9.junk :: a9.junk :: []) h n := by
  have hlen := ha.len
  have hmax : maxLen = 9223372036854775807 := rfl
  intro m
  induction m with
  | zero =>
    intro i x2 x3 x4 x7 x11 x30 x37 x38 x39 x52 hi hs
    have : i = os.length := by omega
    subst this
    have hc : ¬ ((os.length : Nat) : Int) < ((os.length : Nat) : Int) := by omega
    rw [bZ]
    simp only [CU, bO, Try.f57, Option.getD_some, aB, fgr, execOp, opd, aC, put, nth, aA, bor, aJ, aK, intOp, List.getD_cons_zero, hc, gL, gB]
    rw [List.take_length] at hs
    exact hq _ _ _ _ _ _ _ _ _ _ hs
  | succ m ih =>
    intro i x2 x3 x4 x7 x11 x30 x37 x38 x39 x52 hi hs
    have hil : i < os.length := by omega
    have hc : ((i : Nat) : Int) < ((os.length : Nat) : Int) := by omega
    have hwr : IntKind.i64.wrap (((i : Nat) : Int) + 1) = ((i + 1 : Nat) : Int) := by rw [w64 (by omega) (by omega)]; omega
    obtain ⟨mv, sv, he, ⟨⟨ys, hm⟩, ⟨zs, hss⟩, hb⟩, _⟩ := ha.at_ i hil
    have hr0 := ha.rd h
    have m1 := iX hr0 (by omega) (i * 40) 1
    have m2 := iX hr0 (by omega) (i * 40 + 1) 33
    have m3 := iX hr0 (by omega) (i * 40 + 1) 34
    have hx : xs[i * 40 + 1 + 33]? = some mv := by
      rw [show i * 40 + 1 + 33 = i * 40 + 34 by omega, piece he (by omega)]
      exact WW hb
    have hx2 : xs[i * 40 + 1 + 34]? = some sv := by
      rw [show i * 40 + 1 + 34 = i * 40 + 35 by omega, piece he (by omega)]
      exact pS_s hb
    have hov : ∀ b, nO os[i] = b → (os.take (i + 1)).any nO = b := fun b q => by
      rw [List.take_add_one, List.getElem?_eq_getElem hil, Option.toList_some, List.any_append, hs]
      simp [q]
    have hmem := List.getElem_mem hil
    have lm := (hm.rd h).cI (E := env) (t := 43) (ts := []) u43
    have ls := (hss.rd h).cI (E := env) (t := 44) (ts := []) u44
    rw [bZ]
    simp only [CU, bO, Try.f57, Option.getD_some, aB, fgr, execOp, opd, aC, put, nth, aA, bor, aJ, aK, intOp, List.getD_cons_zero, hc, gL, gB]
    rw [aN (hr0.idx (j := i) wR F7 rfl hil)]
    simp only [aB, tyr, execOp, opd, aC, put, nth, und, sizeOf, aV, fieldAddr, m1, m2, gL]
    rw [aN (hr0.load (k := i * 40 + 1 + 33) sG rfl hx)]
    simp only [aB, execOp, opd, bC, ofValue, aC, put, nth, aI, builtin, dB, bor, aJ, aK, intOp, gt_iff_lt, lm, gL, gB]
    by_cases c1 : 20 < os[i].A.made.length
    · have c1' : 20 < ((os[i].A.made.length : Nat) : Int) := by omega
      simp only [aB, fgr, execOp, opd, ofValue, aC, put, nth, aA, aW, branch, c1', gL, gB]
      exact hr _ _ _ _ _ _ _ _ _ _ _ _ (List.any_eq_true.2 ⟨_, hmem, by simp [nO, c1]⟩)
    have c1' : ¬ 20 < ((os[i].A.made.length : Nat) : Int) := by omega
    simp only [aB, execOp, opd, aC, put, nth, c1', gL, gB]
    rw [aN (hr0.idx (j := i) wR F7 rfl hil)]
    simp only [aB, tyr, execOp, opd, aC, put, nth, und, sizeOf, aV, fieldAddr, m1, m3, gL]
    rw [aN (hr0.load (k := i * 40 + 1 + 34) CA rfl hx2)]
    simp only [aB, fgr, execOp, opd, bC, ofValue, aC, put, nth, aA, aI, builtin, dB, bor, aJ, aK, intOp, aW, branch, gt_iff_lt, ls, gL, gB]
    by_cases c2 : 20 < os[i].A.spends.length
    · have c2' : 20 < ((os[i].A.spends.length : Nat) : Int) := by omega
      simp only [aB, fgr, execOp, opd, ofValue, aC, put, aA, c2', gB]
      exact hr _ _ _ _ _ _ _ _ _ _ _ _ (List.any_eq_true.2 ⟨_, hmem, by simp [nO, c2]⟩)
    have c2' : ¬ 20 < ((os[i].A.spends.length : Nat) : Int) := by omega
    simp only [aB, execOp, opd, aC, put, nth, c2', gB]
    rw [aN (hr0.idx (j := i) wR F7 rfl hil)]
    simp only [aB, tyr, execOp, opd, aC, put, nth, und, sizeOf, aV, fieldAddr, m1, m2, gL]
    rw [aN (hr0.load (k := i * 40 + 1 + 33) sG rfl hx)]
    simp only [aB, fgr, execOp, opd, bC, ofValue, aC, put, nth, aA, aI, builtin, dB, lm]
    refine J7 _ _ a mv sv os xs ys i os[i] h n ha hil he hb hm ?_ ?_ os[i].A.made.length 0 _ _ _ _ _ _ _ (by omega) rfl
    · intro x2 x4 x7 x11 x30 x39 x52 h0
      simp only [aB, fgr, execOp, opd, ofValue, aC, put, nth, aA, bor, aJ, aK, intOp, bR, hwr, gB]
      exact ih (i + 1) _ _ _ _ _ _ _ _ _ _ (by omega) (hov false (by simp [nO, c1, c2, h0]))
    · intro x0 x3 x4 x7 x9 x10 x11 x30 x37 x38 x39 x52 h0
      simp only [aB]
      exact hr _ _ _ _ _ _ _ _ _ _ _ _ (List.any_eq_true.2 ⟨_, hmem, by simp [nO, h0]⟩)
theorem f57 (a : a9) (os : List OpS) (xs : List a9) (h : Hp) (n : Nat) (ha : tJ a os xs) :
    Wp (aZ env (evalW env) 57 [a]) h n fun v' h' n' => v' = .int .i64 (if lE os then 1 else 0) ∧ h' = h ∧ n' = n := by
  refine bI ff57 fi57 ?_
  have hr0 := ha.rd h
  simp only [U1, Try.f57, Option.getD_some, List.replicate, aB, fgr, execOp, opd, bC, ofValue, aC, put, nth, aA, aI, builtin, dB, bor, aJ, aK, intOp, ended, aP, aQ, Nat.reduceSub, gt_iff_lt, hr0.cI wR, gL, gB, gI]
  by_cases c : 30 < os.length
  · have c' : 30 < ((os.length : Nat) : Int) := by omega
    simp only [aB, fgr, execOp, opd, ofValue, aC, put, nth, aA, ↓reduceIte, c', lE, c, gB]
  · have c' : ¬ 30 < ((os.length : Nat) : Int) := by omega
    simp only [aB, fgr, execOp, opd, bC, ofValue, aC, put, nth, aA, aI, builtin, dB, c', hr0.cI wR, gB]
    refine J8 _ _ a os xs h n ha ?_ ?_ os.length 0 _ _ _ _ _ _ _ _ _ _ (by omega) rfl
    · intro x2 x3 x4 x7 x11 x30 x37 x38 x39 x52 h0
      simp only [aB, fgr, execOp, opd, ofValue, aC, put, nth, aA, ↓reduceIte, reduceCtorEq, lE, c, h0, gB]
    · intro x0 x3 x4 x7 x9 x10 x11 x30 x37 x38 x39 x52 h0
      simp only [aB, nth, ↓reduceIte, Bool.or_true, and_self, lE, h0]
theorem j7 {os : List OpS} (h : lE os = false) : os.length ≤ 30 ∧ ∀ o ∈ os, o.A.made.length ≤ 20 ∧ o.A.spends.length ≤ 20 ∧ ∀ v ∈ o.A.made, v.script.length ≤ 200 := by
  unfold lE at h
  simp only [Bool.or_eq_false_iff, decide_eq_false_iff_not, List.any_eq_false] at h
  refine ⟨by omega, fun o ho => ?_⟩
  have := h.2 o ho
  unfold nO at this
  simp only [Bool.or_eq_true, decide_eq_true_eq, not_or, List.any_eq_true, not_exists, not_and] at this
  refine ⟨by omega, by omega, fun v hv => ?_⟩
  have := this.2 v hv
  unfold xN at this
  simp only [decide_eq_true_eq] at this
  omega
end Go.Am.Ytlgebaofkolkoaa
