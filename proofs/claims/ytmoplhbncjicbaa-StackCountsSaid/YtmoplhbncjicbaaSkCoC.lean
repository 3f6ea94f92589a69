/- The functions that the statement reaches, gone through. -/
import Derived.Test.YtmoplhbncjicbaaSkCoB
set_option linter.unusedSimpArgs false
set_option linter.unusedVariables false
set_option linter.defProp false
set_option maxRecDepth 10000
namespace Go.Am.Ytmoplhbncjicbaa
open Go Go.Am Go.Proofs
set_option maxHeartbeats 8000000 in
theorem f71 (p o k cnt : Nat) (v x : AVal) (cs xs : List AVal) (h : Hp) (n : Nat) (hr : Row h p cs) (hc : cs[o]? = some v) (hv : Rds h 1 v cnt xs) (hk : k < cnt) (hcnt : cnt ≤ 100000) (hx : xs[cnt - 1 - k]? = some x) (hxk : x.cells = [x] ∧ oneCell x = true ∧ isJunk x = false) (hp : p < n) (hvn : ∀ j, ownId v = some j → j < n) (hf : Free h n) :
    Wp (callI env (evalW env) 71 [.ptr p o, .int .i64 (k : Nat)]) h n fun v' h' n' => v' = x ∧ Old h h' n := by
  refine wp_callI ff71 fi71 ?_
  simp only [fu71, Try.f71, Option.getD_some, List.replicate, core1, tyr, fgr, hkr, execOp, opd, opds, ofValue, putT, put, nth, forgetL, doCall, callV_func, zeroOf, cel, alloc, doAlloc, newRow, ended, resultOf, oneOrTup, List.cons_append, List.nil_append, List.append_nil, List.length_cons, List.length_nil, Nat.reduceAdd, Nat.reduceSub, Nat.zero_add, wp_pure]
  refine opv_same (f103 p o _ _) ?_
  simp only [core1, fgr, putT, put, forgetL]
  refine run_range (g := 107) (first := []) (cap := [.ptr (n + 1 + 1) 0]) rfl rfl ?_
  refine wp_callI ff107 fi107 ?_
  simp only [fu107, Try.f107, Option.getD_some, List.replicate, core1, tyr, fgr, execOp, opd, putT, put, nth, forgetL, cel, alloc, newRow, ended, resultOf, oneOrTup, List.cons_append, List.nil_append, List.length_cons, List.length_nil, Nat.reduceAdd, Nat.reduceSub, Nat.zero_add, wp_pure]
  generalize hh5 : upd (upd (upd (upd (upd h n _) (n + 1) _) (n + 1 + 1) _) (n + 1 + 1 + 1) _) (n + 1 + 1 + 1 + 1) _ = h5
  have g0 : h5 n = some (.row (.l [.int .i64 (k : Nat)]) 3) := by rw [← hh5]; simp (disch := first | omega | exact NB _ rfl _) only [upd_same, upd_ne]
  have g1 : h5 (n + 1) = some (.row (.l [.nils]) 22) := by rw [← hh5]; simp (disch := first | omega | exact NB _ rfl _) only [upd_same, upd_ne]
  have g2 : h5 (n + 1 + 1) = some (.row (.l [.ptr p o]) 113) := by rw [← hh5]; simp (disch := first | omega | exact NB _ rfl _) only [upd_same, upd_ne]
  have g3 : h5 (n + 1 + 1 + 1) = some (.loop (L71 [AVal.ptr p o, AVal.int IntKind.i64 ↑k, AVal.junk, AVal.ptr n 0, AVal.nils, AVal.ptr (n + 1) 0, undef, undef, AVal.junk, AVal.fn (Fn.func 107) [] [AVal.ptr (n + 1 + 1) 0], undef, undef, AVal.junk, AVal.junk, undef, AVal.junk, AVal.junk])) := by rw [← hh5, upd_ne _ _ (by omega), upd_same]; rfl
  have g4 : h5 (n + 1 + 1 + 1 + 1) = some (.row (.l [.fn (.yield (n + 1 + 1 + 1)) [] []]) 126) := by rw [← hh5]; simp (disch := first | omega | exact NB _ rfl _) only [upd_same]
  have old5 : Old h h5 n := fun j hj => by rw [← hh5, upd_ne _ _ (by omega), upd_ne _ _ (by omega), upd_ne _ _ (by omega), upd_ne _ _ (by omega), upd_ne _ _ (by omega)]
  have nx5 : ∀ j, n + 1 + 1 + 1 + 1 + 1 ≤ j → h5 j = none := fun j hj => by rw [← hh5, upd_ne _ _ (by omega), upd_ne _ _ (by omega), upd_ne _ _ (by omega), upd_ne _ _ (by omega), upd_ne _ _ (by omega)]; exact hf j (by omega)
  clear hh5
  rw [opv_rd (Row.one ⟨_, g2⟩ rfl ti113 rfl)]
  simp only [core1, tyr, execOp, opd, putT, put, nth, und, sizeOf, nilCheck, getO, moved, fieldAddr, List.getElem?_cons_zero, Nat.add_zero]
  rw [opv_rd ((hr.keep (old5 p hp)).one hc ti53 rfl)]
  simp only [core1, hkr, execOp, opd, opds, putT, put, nth, doCall, callV_func, List.nil_append, List.append_nil]
  refine opv_same (f108 v hv.kind _ _) ?_
  simp only [core1, fgr, putT, put, forgetL]
  refine run_range (g := 110) (first := []) (cap := [.ptr (n + 1 + 1 + 1 + 1 + 1) 0]) rfl rfl ?_
  refine wp_callI ff110 fi110 ?_
  simp only [fu110, Try.f110, Option.getD_some, List.replicate, core1, execOp, opd, nth, ended, resultOf, oneOrTup, List.cons_append, List.nil_append, List.length_cons, List.length_nil, Nat.reduceAdd, Nat.reduceSub, Nat.zero_add, wp_pure]
  generalize hh6 : upd (upd h5 (n + 1 + 1 + 1 + 1 + 1) _) (n + 1 + 1 + 1 + 1 + 1 + 1) _ = h6
  have iv : Inv h6 n p o k cnt v cs xs .nils (L71 [AVal.ptr p o, AVal.int IntKind.i64 ↑k, AVal.junk, AVal.ptr n 0, AVal.nils, AVal.ptr (n + 1) 0, undef, undef, AVal.junk, AVal.fn (Fn.func 107) [] [AVal.ptr (n + 1 + 1) 0], undef, undef, AVal.junk, AVal.junk, undef, AVal.junk, AVal.junk]) (L107 [AVal.fn (Fn.yield (n + 1 + 1 + 1)) [] [], AVal.ptr (n + 1 + 1) 0, AVal.ptr (n + 1 + 1 + 1 + 1) 0, undef, undef, AVal.junk, AVal.junk, AVal.junk, AVal.junk, AVal.fn (Fn.func 110) [] [AVal.ptr (n + 1 + 1 + 1 + 1 + 1) 0], undef, undef, AVal.junk, AVal.junk, AVal.junk, AVal.junk, AVal.junk, AVal.junk, AVal.junk, AVal.junk, AVal.junk, AVal.junk, AVal.junk, undef]) := by
    refine ⟨?_, ?_, ?_, ?_, ?_, ?_, ?_, ?_, hc, ?_, hp, hvn, ?_⟩
    · rw [← hh6, upd_ne _ _ (by omega), upd_ne _ _ (by omega)]; exact g0
    · rw [← hh6, upd_ne _ _ (by omega), upd_ne _ _ (by omega)]; exact g1
    · rw [← hh6, upd_ne _ _ (by omega), upd_ne _ _ (by omega)]; exact g2
    · rw [← hh6, upd_ne _ _ (by omega), upd_ne _ _ (by omega)]; exact g3
    · rw [← hh6, upd_ne _ _ (by omega), upd_ne _ _ (by omega)]; exact g4
    · rw [← hh6, upd_ne _ _ (by omega), upd_same]
    · rw [← hh6, upd_same]; rfl
    · exact hr.keep (by rw [← hh6, upd_ne _ _ (by omega), upd_ne _ _ (by omega)]; exact old5 p hp)
    · exact hv.keep fun j hj => by rw [← hh6, upd_ne _ _ (by have := hvn j hj; omega), upd_ne _ _ (by have := hvn j hj; omega)]; exact old5 j (hvn j hj)
    · intro j hj; rw [← hh6, upd_ne _ _ (by omega), upd_ne _ _ (by omega)]; exact nx5 j (by omega)
  have old6 : Old h h6 n := fun j hj => by rw [← hh6, upd_ne _ _ (by omega), upd_ne _ _ (by omega)]; exact old5 j hj
  clear hh6
  rw [opv_rd (Row.one ⟨_, iv.il⟩ rfl ti53 rfl)]
  have w1 : IntKind.i64.wrap (((cnt : Nat) : Int) - 1) = ((cnt - 1 : Nat) : Int) := by rw [w64 (by omega) (by omega)]; omega
  simp only [core1, fgr, execOp, opd, opds, ofValue, putT, put, nth, forgetL, doCall, builtin, one1, bor, binInt, shiftB, intOp, wrapI, decide_true, hv.bLen u53, w1]
  refine loop110 _ _ n p o k cnt v cs xs _ _ _ _ _ _ _ _ _ _ _ _ _ _ h x hk hcnt hx hxk ?_ k (cnt - 1) h6 _ _ (by omega) (by omega) iv old6
  intro h7 tm7 iv7 old7
  simp only [core1, true_and]
  refine ⟨_, iv7.ib, (fun q => by cases q), .ret, rfl, ?_⟩
  have iv8 := iv7.setB { L107 [AVal.fn (Fn.yield (n + 1 + 1 + 1)) [] [], AVal.ptr (n + 1 + 1) 0, AVal.ptr (n + 1 + 1 + 1 + 1) 0, undef, undef, AVal.junk, AVal.junk, AVal.junk, AVal.junk, AVal.fn (Fn.func 110) [] [AVal.ptr (n + 1 + 1 + 1 + 1 + 1) 0], undef, undef, AVal.junk, AVal.junk, AVal.junk, AVal.junk, AVal.junk, AVal.junk, AVal.junk, AVal.junk, AVal.junk, AVal.junk, AVal.junk, undef] with state := .exhausted, pending := some .ret }
  simp only [core1, true_and]
  refine ⟨_, iv8.ia, (fun q => by cases q), .exit 0, rfl, ?_⟩
  simp only [core1, execOp, opd, nth]
  rw [opv_rd (Row.one (id := n + 1) ⟨_, (iv8.setA _).ir⟩ rfl ti22 rfl)]
  simp only [core1, fgr, execOp, opd, putT, put, nth, forgetL, true_and]
  exact (old7.upd (by omega)).upd (by omega)
/-- Two lists of elements, behind one address. -/
structure StkV (h : Hp) (n : Nat) (D : Nat → Prop) (p : Nat) (vl vo : AVal) (xl xo : List AVal) (ls os : List (List UInt8)) : Prop where
  row : ∃ e, h p = some (.row (.l [vl, vo]) e)
  l : Lst h 22 1 vl ls.length xl
  le : Els h D xl ls
  o : Lst h 22 1 vo os.length xo
  oe : Els h D xo os
  pn : p < n
  dn : ∀ j, D j → j < n
  pd : ¬ D p
  lp : ∀ j, ownId vl = some j → j ≠ p ∧ ¬ D j
  op : ∀ j, ownId vo = some j → j ≠ p ∧ ¬ D j ∧ ownId vl ≠ some j
def Stk (h : Hp) (n : Nat) (D M : Nat → Prop) (p : Nat) (ls os : List (List UInt8)) : Prop :=
  ∃ vl vo xl xo, StkV h n D p vl vo xl xo ls os ∧ M p ∧ (∀ j, ownId vl = some j → M j) ∧ (∀ j, ownId vo = some j → M j) ∧ ∀ j, M j → j < n ∧ ¬ D j
/-- What a change of a stack leaves. -/
structure Chg (h : Hp) (n : Nat) (D M : Nat → Prop) (h' : Hp) (n' : Nat) (D' M' : Nat → Prop) : Prop where
  nx : n ≤ n'
  fr : Free h' n'
  d : ∀ j, D j → D' j
  d' : ∀ j, D' j → D j ∨ n ≤ j
  m' : ∀ j, M' j → M j ∨ n ≤ j
  old : ∀ j, j < n → ¬ M j → h' j = h j
theorem Chg.refl {h : Hp} {n : Nat} {D M : Nat → Prop} (hf : Free h n) : Chg h n D M h n D M := ⟨Nat.le_refl _, hf, fun _ h => h, fun _ h => .inl h, fun _ h => .inl h, fun _ _ _ => rfl⟩
theorem Chg.trans {h h1 h2 : Hp} {n n1 n2 : Nat} {D D1 D2 M M1 M2 : Nat → Prop} (a : Chg h n D M h1 n1 D1 M1) (b : Chg h1 n1 D1 M1 h2 n2 D2 M2) : Chg h n D M h2 n2 D2 M2 where
  nx := Nat.le_trans a.nx b.nx
  fr := b.fr
  d := fun j hj => b.d j (a.d j hj)
  d' := fun j hj => (b.d' j hj).elim (a.d' j) (fun q => .inr (Nat.le_trans a.nx q))
  m' := fun j hj => (b.m' j hj).elim (a.m' j) (fun q => .inr (Nat.le_trans a.nx q))
  old := fun j hj hm => by
    rw [b.old j (by have := a.nx; omega) (fun q => by
      rcases a.m' j q with q | q
      · exact hm q
      · omega)]
    exact a.old j hj hm
/-- What lies beside is as it was. -/
theorem StkV.keep {h h' : Hp} {n n' : Nat} {D : Nat → Prop} {p : Nat} {vl vo : AVal} {xl xo : List AVal} {ls os : List (List UInt8)} (s : StkV h n D p vl vo xl xo ls os) (hn : n ≤ n') (hp : h' p = h p) (hl : ∀ j, ownId vl = some j → h' j = h j) (ho : ∀ j, ownId vo = some j → h' j = h j) (hd : ∀ j, D j → h' j = h j) : StkV h' n' D p vl vo xl xo ls os where
  row := by rw [hp]; exact s.row
  l := s.l.keep hl
  le := s.le.mono (fun _ h => h) hd
  o := s.o.keep ho
  oe := s.oe.mono (fun _ h => h) hd
  pn := by have := s.pn; omega
  dn := fun j hj => by have := s.dn j hj; omega
  pd := s.pd
  lp := s.lp
  op := s.op
theorem Stk.old {h h' : Hp} {n n' : Nat} {D M : Nat → Prop} {p : Nat} {ls os : List (List UInt8)} (s : Stk h n D M p ls os) (hn : n ≤ n') (ho : Old h h' n) : Stk h' n' D M p ls os := by
  obtain ⟨vl, vo, xl, xo, sv, mp, ml, mo, mn⟩ := s
  refine ⟨vl, vo, xl, xo, sv.keep hn (ho p sv.pn) (fun j hj => ho j (mn j (ml j hj)).1) (fun j hj => ho j (mn j (mo j hj)).1) (fun j hj => ho j (sv.dn j hj)), mp, ml, mo, fun j hj => ⟨by have := (mn j hj).1; omega, (mn j hj).2⟩⟩
theorem Stk.beside {h h' : Hp} {n n' : Nat} {D M : Nat → Prop} {p : Nat} {ls os : List (List UInt8)} (s : Stk h n D M p ls os) (hn : n ≤ n') (ho : ∀ j, j < n → (D j ∨ M j) → h' j = h j) : Stk h' n' D M p ls os := by
  obtain ⟨vl, vo, xl, xo, sv, mp, ml, mo, mn⟩ := s
  refine ⟨vl, vo, xl, xo, sv.keep hn (ho p sv.pn (.inr mp)) (fun j hj => ho j (mn j (ml j hj)).1 (.inr (ml j hj))) (fun j hj => ho j (mn j (mo j hj)).1 (.inr (mo j hj))) (fun j hj => ho j (sv.dn j hj) (.inl hj)), mp, ml, mo, fun j hj => ⟨by have := (mn j hj).1; omega, (mn j hj).2⟩⟩
theorem old_chg {h h' : Hp} {n n' : Nat} {D M : Nat → Prop} (hf : Free h' n') (hn : n ≤ n') (ho : Old h h' n) : Chg h n D M h' n' D M := ⟨hn, hf, fun _ h => h, fun _ h => .inl h, fun _ h => .inl h, fun j hj _ => ho j hj⟩
theorem f65 (p : Nat) (ls os : List (List UInt8)) (D M : Nat → Prop) (h : Hp) (n : Nat) (hs : Stk h n D M p ls os) (hl : ls.length + os.length ≤ 1000000) (hf : Free h n) : Wp (callI env (evalW env) 65 [.ptr p 0]) h n fun v' h' n' => v' = .int .i64 (ls.length + os.length : Nat) ∧ Old h h' n := by
  obtain ⟨vl, vo, xl, xo, sv, mp, ml, mo, mn⟩ := hs
  refine wp_callI ff65 fi65 ?_
  have hr := sv.row
  simp only [fu65, Try.f65, Option.getD_some, List.replicate, core1, fgr, execOp, opd, ofValue, putT, put, forgetL, ended, resultOf, oneOrTup, List.cons_append, List.nil_append, List.length_cons, List.length_nil, Nat.reduceSub, Nat.zero_add, wp_pure]
  refine run_draw ⟨rfl, ?_⟩
  simp only [fe_cons, fev_pure, core1, tyr, hkr, execOp, opd, opds, putT, put, nth, doCall, callV_func, und, sizeOf, nilCheck, getO, moved, fieldAddr, List.getElem?_cons_zero, List.nil_append, List.append_nil, Nat.reduceAdd, Nat.zero_add]
  refine fev_any hf (f66 p 0 vl [vl, vo] ls.length xl h n hr rfl sv.l.rds) fun v1 h1 n1 r1 w1 hn1 f1 ⟨e1, e2, e3⟩ => ?_
  subst e1; subst e2; subst e3
  simp only [fe_cons, fev_pure, core1, tyr, hkr, execOp, opd, opds, putT, put, nth, doCall, callV_func, und, sizeOf, nilCheck, getO, moved, fieldAddr, List.getElem?_cons_succ, List.getElem?_cons_zero, List.nil_append, List.append_nil, Nat.reduceAdd, Nat.zero_add]
  refine fev_any f1 (f66 p 1 vo [vl, vo] os.length xo h1 n1 hr rfl sv.o.rds) fun v2 h2 n2 r2 w2 hn2 f2 ⟨e1, e2, e3⟩ => ?_
  subst e1; subst e2; subst e3
  have w : IntKind.i64.wrap (((ls.length : Nat) : Int) + ((os.length : Nat) : Int)) = ((ls.length + os.length : Nat) : Int) := by rw [w64 (by omega) (by omega)]; omega
  simp only [fe_nil, fe_cons, fev_pure, core1, fgr, execOp, opd, putT, put, nth, forgetL, bor, binInt, shiftB, intOp, wrapI, Nat.reduceAdd, decide_true, true_and, w]
  refine ⟨(by (try simp (disch := first | assumption | omega) only [fine, List.all_cons, List.all_nil, clash_pl, clash_pr, Bool.not_false, Bool.true_or, Bool.and_true, Bool.true_and]); repeat' (first | rfl | exact (Bool.or_eq_true _ _).mpr (.inr rfl) | refine (Bool.and_eq_true _ _).mpr ⟨?_, ?_⟩)), ?_⟩
  exact Old.refl _ _
theorem f42 (p : Nat) (ls os : List (List UInt8)) (D M : Nat → Prop) (h : Hp) (n : Nat) (hs : Stk h n D M p ls os) (hf : Free h n) : Wp (callI env (evalW env) 42 [.ptr p 0]) h n fun v' h' n' => v' = .int .i64 (ls.length : Nat) ∧ Old h h' n := by
  obtain ⟨vl, vo, xl, xo, sv, mp, ml, mo, mn⟩ := hs
  refine wp_callI ff42 fi42 ?_
  simp only [fu42, Try.f42, Option.getD_some, List.replicate, core1, tyr, fgr, hkr, execOp, opd, opds, ofValue, putT, put, nth, forgetL, doCall, callV_func, und, sizeOf, bor, binOther, strK, aggK, nilCheck, getO, ended, resultOf, oneOrTup, moved, fieldAddr, equalTop, equal, nilFn, nilPtr, boolOf, List.getElem?_cons_zero, List.cons_append, List.nil_append, List.append_nil, List.length_cons, List.length_nil, Nat.reduceSub, Bool.and_true, Bool.or_true, Nat.zero_add, wp_pure]
  refine opv_same (f66 p 0 vl [vl, vo] ls.length xl h n sv.row rfl sv.l.rds) ?_
  simp only [core1, fgr, execOp, opd, putT, put, nth, forgetL, true_and]
  exact Old.refl _ _
/-- The element so far below the top, or nothing. -/
def topL (ls : List (List UInt8)) (k : Int) : List UInt8 := if 0 ≤ k ∧ k < ls.length then ls.getD (ls.length - 1 - k.toNat) [] else []
def topE (ls : List (List UInt8)) (k : Int) : Int := if 0 ≤ k ∧ k < ls.length then 0 else 120
theorem elx {h : Hp} {D : Nat → Prop} {xl : List AVal} {ls : List (List UInt8)} (le : Els h D xl ls) {k : Nat} (hk : k < ls.length) : ∃ x, xl[ls.length - 1 - k]? = some x ∧ El h D x (ls.getD (ls.length - 1 - k) []) := by
  obtain ⟨x, h1, h2⟩ := le.get (j := ls.length - 1 - k) (by omega)
  refine ⟨x, h1, ?_⟩
  rw [List.getD_eq_getElem?_getD, List.getElem?_eq_getElem (by omega)]
  exact h2
theorem f43 (p : Nat) (k : Int) (ls os : List (List UInt8)) (D M : Nat → Prop) (h : Hp) (n : Nat) (hs : Stk h n D M p ls os) (hl : ls.length ≤ 100000) (hel : ∀ l ∈ ls, l.length ≤ 1000000) (hf : Free h n) :
    Wp (callI env (evalW env) 43 [.ptr p 0, .int .i64 k]) h n fun v' h' n' => ∃ s, v' = .tup [s, .int .i64 (topE ls k)] ∧ Bytes h' s (topL ls k) ∧ (∀ j, ownId s = some j → n ≤ j ∧ j < n') ∧ Old h h' n := by
  obtain ⟨vl, vo, xl, xo, sv, mp, ml, mo, mn⟩ := hs
  refine wp_callI ff43 fi43 ?_
  by_cases c0 : k < 0
  · have ce : topE ls k = 120 := if_neg (by omega)
    have cl : topL ls k = [] := if_neg (by omega)
    simp only [fu43, Try.f43, Option.getD_some, List.replicate, core1, tyr, fgr, execOp, opd, ofValue, putT, put, nth, forgetL, und, bor, binInt, binOther, shiftB, intOp, strK, aggK, doPick, branch, ended, resultOf, oneOrTup, equalTop, equal, nilFn, nilPtr, boolOf, List.getElem?_cons_succ, List.getElem?_cons_zero, List.cons_append, List.nil_append, List.length_cons, List.length_nil, Nat.reduceAdd, Nat.reduceSub, decide_true, Bool.and_true, Bool.or_true, true_and, Nat.zero_add, wp_pure, c0]
    exact ⟨_, by rw [ce], by rw [cl]; exact .nils, fun j hj => (by cases hj), Old.refl _ _⟩
  simp only [fu43, Try.f43, Option.getD_some, List.replicate, core1, tyr, fgr, hkr, execOp, opd, opds, ofValue, putT, put, nth, forgetL, doCall, callV_func, und, sizeOf, bor, binInt, binOther, shiftB, intOp, strK, aggK, nilCheck, getO, ended, resultOf, oneOrTup, moved, fieldAddr, equalTop, equal, nilFn, nilPtr, boolOf, List.getElem?_cons_succ, List.getElem?_cons_zero, List.cons_append, List.nil_append, List.append_nil, List.length_cons, List.length_nil, Nat.reduceAdd, Nat.reduceSub, decide_true, decide_false, Bool.and_true, Bool.or_true, Nat.zero_add, wp_pure, c0]
  refine opv_same (f66 p 0 vl [vl, vo] ls.length xl h n sv.row rfl sv.l.rds) ?_
  by_cases c1 : ((ls.length : Nat) : Int) ≤ k
  · have ce : topE ls k = 120 := if_neg (by omega)
    have cl : topL ls k = [] := if_neg (by omega)
    simp only [core1, fgr, execOp, opd, ofValue, putT, put, nth, forgetL, bor, binInt, shiftB, intOp, doPick, branch, List.getElem?_cons_succ, List.getElem?_cons_zero, ge_iff_le, decide_true, true_and, c1]
    exact ⟨_, by rw [ce], by rw [cl]; exact .nils, fun j hj => (by cases hj), Old.refl _ _⟩
  obtain ⟨m, rfl⟩ : ∃ m : Nat, k = (m : Nat) := ⟨k.toNat, by omega⟩
  have ce : topE ls (m : Nat) = 0 := if_pos (by omega)
  have cl : topL ls (m : Nat) = ls.getD (ls.length - 1 - m) [] := by unfold topL; rw [if_pos (by omega), Int.toNat_natCast]
  obtain ⟨x, hx, hxe⟩ := elx sv.le (k := m) (by omega)
  simp only [core1, tyr, fgr, hkr, execOp, opd, opds, ofValue, putT, put, nth, forgetL, doCall, callV_func, und, sizeOf, bor, binInt, shiftB, intOp, doPick, branch, nilCheck, getO, moved, fieldAddr, List.getElem?_cons_succ, List.getElem?_cons_zero, List.nil_append, List.append_nil, ge_iff_le, decide_true, decide_false, Nat.zero_add, c1]
  refine opv_callf hf (f71 p 0 m ls.length vl x [vl, vo] xl h n sv.row rfl sv.l.rds (by omega) hl hx hxe.1.kind sv.pn (fun j hj => (mn j (ml j hj)).1) hf) fun v1 h1 n1 hn1 f1 ⟨e1, o1⟩ => ?_
  subst e1
  have hb : Bytes h1 v1 (ls.getD (ls.length - 1 - m) []) := hxe.1.keep fun j hj => o1 j (sv.dn j (hxe.2 j hj))
  have hml : (ls.getD (ls.length - 1 - m) []).length ≤ 1000000 := by
    rw [List.getD_eq_getElem?_getD, List.getElem?_eq_getElem (by omega)]
    exact hel _ (List.getElem_mem _)
  simp only [core1, hkr, execOp, opd, opds, putT, put, nth, doCall, callV_func, List.nil_append, List.append_nil]
  refine opv_callf f1 (f64 v1 _ h1 n1 hb hml f1) fun v2 h2 n2 hn2 f2 ⟨b2, i2, o2⟩ => ?_
  simp only [core1, fgr, execOp, opd, ofValue, putT, put, nth, forgetL, true_and]
  exact ⟨v2, by rw [ce], by rw [cl]; exact b2, fun j hj => ⟨by have := i2 j hj; omega, (i2 j hj).2⟩, fun j hj => (o2 j (by omega)).trans (o1 j hj)⟩
/-- The last ones are cut off the main list. -/
theorem cut_stk {h h' : Hp} {n n' : Nat} {D M : Nat → Prop} {p : Nat} {vl vo : AVal} {xl xo : List AVal} {ls os : List (List UInt8)} (sv : StkV h n D p vl vo xl xo ls os) (k : Nat) (hk : k ≤ ls.length) (mp : M p) (ml : ∀ j, ownId vl = some j → M j) (mo : ∀ j, ownId vo = some j → M j) (mn : ∀ j, M j → j < n ∧ ¬ D j)
    (hr : ∃ e, h' p = some (.row (.l [cutOf (ls.length - k) vl, vo]) e)) (hl : Lst h' 22 1 (cutOf (ls.length - k) vl) (ls.length - k) (xl.take (ls.length - k))) (ho : ∀ j, j < n → j ≠ p → h' j = h j) (hn : n ≤ n') : Stk h' n' D M p (ls.take (ls.length - k)) os := by
  have hd : ∀ j, D j → h' j = h j := fun j hj => ho j (sv.dn j hj) (fun q => sv.pd (by rw [← q]; exact hj))
  refine ⟨_, vo, _, xo, ⟨hr, by rw [List.length_take, Nat.min_eq_left (by omega)]; exact hl, (sv.le.take _).mono (fun _ h => h) hd, sv.o.keep fun j hj => ho j (mn j (mo j hj)).1 (sv.op j hj).1, sv.oe.mono (fun _ h => h) hd, by have := sv.pn; omega, fun j hj => by have := sv.dn j hj; omega, sv.pd, fun j hj => ?_, fun j hj => ?_⟩, mp, fun j hj => ?_, mo, fun j hj => ⟨by have := (mn j hj).1; omega, (mn j hj).2⟩⟩
  · rw [cut_id] at hj; exact sv.lp j hj
  · rw [cut_id]; exact sv.op j hj
  · rw [cut_id] at hj; exact ml j hj
def popL (ls : List (List UInt8)) : List (List UInt8) := ls.take (ls.length - 1)
/-- Elements are put on the top of a list. -/
theorem put_stk {h h' : Hp} {n n' : Nat} {D M : Nat → Prop} {p : Nat} {vl vo s' : AVal} {xl xo ys : List AVal} {ls os ms : List (List UInt8)} (sv : StkV h n D p vl vo xl xo ls os) (mp : M p) (ml : ∀ j, ownId vl = some j → M j) (mo : ∀ j, ownId vo = some j → M j) (mn : ∀ j, M j → j < n ∧ ¬ D j)
    (hl : Lst h' 22 1 s' (ls.length + ms.length) (xl ++ ys)) (hr : Row h' p [s', vo]) (hid : ownId s' = ownId vl ∨ ownId s' = some n ∧ n < n') (ho : ∀ j, j < n → j ≠ p → ownId vl ≠ some j → h' j = h j) (hf : Free h' n') (hn : n ≤ n') (hys : Els h' D ys ms) (hdn : True) :
    ∃ M', Stk h' n' D M' p (ls ++ ms) os ∧ Chg h n D M h' n' D M' := by
  have hd : ∀ j, D j → h' j = h j := fun j hj => ho j (sv.dn j hj) (fun q => sv.pd (by rw [← q]; exact hj)) (fun q => (sv.lp j q).2 hj)
  have hvo : ∀ j, ownId vo = some j → h' j = h j := fun j hj => ho j (mn j (mo j hj)).1 (sv.op j hj).1 (sv.op j hj).2.2
  refine ⟨fun j => j = p ∨ ownId s' = some j ∨ ownId vo = some j, ⟨s', vo, xl ++ ys, xo, ⟨hr, by rw [List.length_append]; exact hl, (sv.le.mono (fun _ h => h) hd).app hys, sv.o.keep hvo, sv.oe.mono (fun _ h => h) hd, by have := sv.pn; omega, fun j hj => by have := sv.dn j hj; omega, sv.pd, fun j hj => ?_, fun j hj => ⟨(sv.op j hj).1, (sv.op j hj).2.1, fun q => ?_⟩⟩, .inl rfl, fun j hj => .inr (.inl hj), fun j hj => .inr (.inr hj), fun j hj => ?_⟩, ⟨hn, hf, fun _ h => h, fun _ h => .inl h, fun j hj => ?_, fun j hj hm => ho j hj (fun q => hm (by rw [q]; exact mp)) (fun q => hm (ml j q))⟩⟩
  · rcases hid with q | ⟨q, q2⟩
    · rw [q] at hj; exact sv.lp j hj
    · rw [q] at hj; injection hj with hj; subst hj
      exact ⟨fun e => by have := sv.pn; omega, fun e => by have := sv.dn n e; omega⟩
  · rcases hid with q1 | ⟨q1, q2⟩
    · rw [q1] at q; exact (sv.op j hj).2.2 q
    · rw [q1] at q; injection q with q; have := (mn j (mo j hj)).1; omega
  · rcases hj with q | q | q
    · subst q; exact ⟨by have := sv.pn; omega, sv.pd⟩
    · rcases hid with q1 | ⟨q1, q2⟩
      · rw [q1] at q; exact ⟨by have := (mn j (ml j q)).1; omega, (sv.lp j q).2⟩
      · rw [q1] at q; injection q with q; subst q
        exact ⟨by omega, fun e => by have := sv.dn n e; omega⟩
    · exact ⟨by have := (mn j (mo j q)).1; omega, (sv.op j q).2.1⟩
  · rcases hj with q | q | q
    · rw [q]; exact .inl mp
    · rcases hid with q1 | ⟨q1, q2⟩
      · rw [q1] at q; exact .inl (ml j q)
      · rw [q1] at q; injection q with q; exact .inr (by omega)
    · exact .inl (mo j q)
/-- More blocks of elements. -/
theorem StkV.more {h : Hp} {n : Nat} {D D' : Nat → Prop} {p : Nat} {vl vo : AVal} {xl xo : List AVal} {ls os : List (List UInt8)} (s : StkV h n D p vl vo xl xo ls os) (hd : ∀ j, D j → D' j) (h1 : ∀ j, D' j → j < n) (h2 : ∀ j, D' j → j ≠ p ∧ ownId vl ≠ some j ∧ ownId vo ≠ some j) : StkV h n D' p vl vo xl xo ls os where
  row := s.row
  l := s.l
  le := s.le.mono hd (fun _ _ => rfl)
  o := s.o
  oe := s.oe.mono hd (fun _ _ => rfl)
  pn := s.pn
  dn := h1
  pd := fun q => (h2 p q).1 rfl
  lp := fun j hj => ⟨(s.lp j hj).1, fun q => (h2 j q).2.1 hj⟩
  op := fun j hj => ⟨(s.op j hj).1, fun q => (h2 j q).2.2 hj, (s.op j hj).2.2⟩
/-- How many elements an operation asks for that only moves them, and in which order they stand then. -/
def frm (c : Int) : Option (Nat × List Nat) :=
  if c = 109 then some (2, []) else
  if c = 110 then some (2, [0, 1, 0, 1]) else
  if c = 111 then some (3, [0, 1, 2, 0, 1, 2]) else
  if c = 112 then some (4, [0, 1, 2, 3, 0, 1]) else
  if c = 113 then some (6, [2, 3, 4, 5, 0, 1]) else
  if c = 114 then some (4, [2, 3, 0, 1]) else
  if c = 117 then some (1, []) else
  if c = 118 then some (1, [0, 0]) else
  if c = 119 then some (2, [1]) else
  if c = 120 then some (2, [0, 1, 0]) else
  if c = 123 then some (3, [1, 2, 0]) else
  if c = 124 then some (2, [1, 0]) else
  if c = 125 then some (2, [1, 0, 1]) else
  none
def leastV (c : Int) : Int := match frm c with
  | some x => x.1
  | none => if c = 116 ∨ c = 108 then 0 else if c = 115 ∨ c = 130 ∨ c = 107 ∨ c = 121 ∨ c = 122 then 1 else -1
def idxs (c : Int) : List Nat := match frm c with
  | some x => x.2
  | none => []
def fA (c : Int) : List UInt8 := match frm c with
  | some x => (List.range x.1).map fun i => UInt8.ofNat (97 + i)
  | none => []
def fB (c : Int) : List UInt8 := (idxs c).map fun i => UInt8.ofNat (97 + i)
def isF (c : Int) : Bool := (frm c).isSome
theorem lv109 : leastV 109 = 2 := by decide
theorem ix109 : idxs 109 = [] := by decide
theorem if109 : isF 109 = true := by decide
theorem fr109 : frm 109 = some (2, []) := by decide
theorem lv110 : leastV 110 = 2 := by decide
theorem ix110 : idxs 110 = [0, 1, 0, 1] := by decide
theorem if110 : isF 110 = true := by decide
theorem fr110 : frm 110 = some (2, [0, 1, 0, 1]) := by decide
theorem lv111 : leastV 111 = 3 := by decide
theorem ix111 : idxs 111 = [0, 1, 2, 0, 1, 2] := by decide
theorem if111 : isF 111 = true := by decide
theorem fr111 : frm 111 = some (3, [0, 1, 2, 0, 1, 2]) := by decide
theorem lv112 : leastV 112 = 4 := by decide
theorem ix112 : idxs 112 = [0, 1, 2, 3, 0, 1] := by decide
theorem if112 : isF 112 = true := by decide
theorem fr112 : frm 112 = some (4, [0, 1, 2, 3, 0, 1]) := by decide
theorem lv113 : leastV 113 = 6 := by decide
theorem ix113 : idxs 113 = [2, 3, 4, 5, 0, 1] := by decide
theorem if113 : isF 113 = true := by decide
theorem fr113 : frm 113 = some (6, [2, 3, 4, 5, 0, 1]) := by decide
theorem lv114 : leastV 114 = 4 := by decide
theorem ix114 : idxs 114 = [2, 3, 0, 1] := by decide
theorem if114 : isF 114 = true := by decide
theorem fr114 : frm 114 = some (4, [2, 3, 0, 1]) := by decide
theorem lv117 : leastV 117 = 1 := by decide
theorem ix117 : idxs 117 = [] := by decide
theorem if117 : isF 117 = true := by decide
theorem fr117 : frm 117 = some (1, []) := by decide
theorem lv118 : leastV 118 = 1 := by decide
theorem ix118 : idxs 118 = [0, 0] := by decide
theorem if118 : isF 118 = true := by decide
theorem fr118 : frm 118 = some (1, [0, 0]) := by decide
theorem lv119 : leastV 119 = 2 := by decide
theorem ix119 : idxs 119 = [1] := by decide
theorem if119 : isF 119 = true := by decide
theorem fr119 : frm 119 = some (2, [1]) := by decide
theorem lv120 : leastV 120 = 2 := by decide
theorem ix120 : idxs 120 = [0, 1, 0] := by decide
theorem if120 : isF 120 = true := by decide
theorem fr120 : frm 120 = some (2, [0, 1, 0]) := by decide
theorem lv123 : leastV 123 = 3 := by decide
theorem ix123 : idxs 123 = [1, 2, 0] := by decide
theorem if123 : isF 123 = true := by decide
theorem fr123 : frm 123 = some (3, [1, 2, 0]) := by decide
theorem lv124 : leastV 124 = 2 := by decide
theorem ix124 : idxs 124 = [1, 0] := by decide
theorem if124 : isF 124 = true := by decide
theorem fr124 : frm 124 = some (2, [1, 0]) := by decide
theorem lv125 : leastV 125 = 2 := by decide
theorem ix125 : idxs 125 = [1, 0, 1] := by decide
theorem if125 : isF 125 = true := by decide
theorem fr125 : frm 125 = some (2, [1, 0, 1]) := by decide
theorem lv116 : leastV 116 = 0 := by decide
theorem lv108 : leastV 108 = 0 := by decide
theorem lv115 : leastV 115 = 1 := by decide
theorem lv130 : leastV 130 = 1 := by decide
theorem lv107 : leastV 107 = 1 := by decide
theorem lv121 : leastV 121 = 1 := by decide
theorem lv122 : leastV 122 = 1 := by decide
theorem frN {c : Int} (e109 : ¬ c = 109) (e110 : ¬ c = 110) (e111 : ¬ c = 111) (e112 : ¬ c = 112) (e113 : ¬ c = 113) (e114 : ¬ c = 114) (e117 : ¬ c = 117) (e118 : ¬ c = 118) (e119 : ¬ c = 119) (e120 : ¬ c = 120) (e123 : ¬ c = 123) (e124 : ¬ c = 124) (e125 : ¬ c = 125) : frm c = none := by
  unfold frm
  rw [if_neg e109, if_neg e110, if_neg e111, if_neg e112, if_neg e113, if_neg e114, if_neg e117, if_neg e118, if_neg e119, if_neg e120, if_neg e123, if_neg e124, if_neg e125]
theorem lvN {c : Int} (h : frm c = none) (e116 : ¬ c = 116) (e108 : ¬ c = 108) (e115 : ¬ c = 115) (e130 : ¬ c = 130) (e107 : ¬ c = 107) (e121 : ¬ c = 121) (e122 : ¬ c = 122) : leastV c = -1 := by
  unfold leastV
  rw [h]
  simp only [e116, e108, e115, e130, e107, e121, e122, or_self, ↓reduceIte]
theorem ixN {c : Int} (h : frm c = none) : idxs c = [] ∧ fA c = [] ∧ fB c = [] ∧ isF c = false := by
  unfold fA fB isF idxs
  rw [h]; exact ⟨rfl, rfl, rfl, rfl⟩
def iN (i : Nat) : AVal := .int .i64 (i : Nat)
theorem f67 (h : Hp) (n : Nat) (c : Int) : Wp (callI env (evalW env) 67 [.int .u8 c]) h n fun v' h' n' => v' = .int .i64 (leastV c) ∧ h' = h ∧ n' = n := by
  refine wp_callI ff67 fi67 ?_
  by_cases e109 : c = 109
  · subst e109
    simp only [fu67, Try.f67, Option.getD_some, List.replicate, core1, fgr, execOp, opd, ofValue, putT, put, nth, forgetL, bor, binInt, shiftB, intOp, ended, resultOf, oneOrTup, List.cons_append, List.nil_append, List.length_cons, List.length_nil, Nat.reduceSub, int_beq, Int.reduceEq, Int.reduceNeg, decide_true, decide_false, and_self, Nat.zero_add, wp_pure, beq_self_eq_true, lv109]
  by_cases e110 : c = 110
  · subst e110
    simp only [fu67, Try.f67, Option.getD_some, List.replicate, core1, fgr, execOp, opd, ofValue, putT, put, nth, forgetL, bor, binInt, shiftB, intOp, ended, resultOf, oneOrTup, List.cons_append, List.nil_append, List.length_cons, List.length_nil, Nat.reduceSub, int_beq, Int.reduceEq, Int.reduceNeg, decide_true, decide_false, and_self, Nat.zero_add, wp_pure, beq_self_eq_true, lv110]
  by_cases e111 : c = 111
  · subst e111
    simp only [fu67, Try.f67, Option.getD_some, List.replicate, core1, fgr, execOp, opd, ofValue, putT, put, nth, forgetL, bor, binInt, shiftB, intOp, ended, resultOf, oneOrTup, List.cons_append, List.nil_append, List.length_cons, List.length_nil, Nat.reduceSub, int_beq, Int.reduceEq, Int.reduceNeg, decide_true, decide_false, and_self, Nat.zero_add, wp_pure, beq_self_eq_true, lv111]
  by_cases e112 : c = 112
  · subst e112
    simp only [fu67, Try.f67, Option.getD_some, List.replicate, core1, fgr, execOp, opd, ofValue, putT, put, nth, forgetL, bor, binInt, shiftB, intOp, ended, resultOf, oneOrTup, List.cons_append, List.nil_append, List.length_cons, List.length_nil, Nat.reduceSub, int_beq, Int.reduceEq, Int.reduceNeg, decide_true, decide_false, and_self, Nat.zero_add, wp_pure, beq_self_eq_true, lv112]
  by_cases e113 : c = 113
  · subst e113
    simp only [fu67, Try.f67, Option.getD_some, List.replicate, core1, fgr, execOp, opd, ofValue, putT, put, nth, forgetL, bor, binInt, shiftB, intOp, ended, resultOf, oneOrTup, List.cons_append, List.nil_append, List.length_cons, List.length_nil, Nat.reduceSub, int_beq, Int.reduceEq, Int.reduceNeg, decide_true, decide_false, and_self, Nat.zero_add, wp_pure, beq_self_eq_true, lv113]
  by_cases e114 : c = 114
  · subst e114
    simp only [fu67, Try.f67, Option.getD_some, List.replicate, core1, fgr, execOp, opd, ofValue, putT, put, nth, forgetL, bor, binInt, shiftB, intOp, ended, resultOf, oneOrTup, List.cons_append, List.nil_append, List.length_cons, List.length_nil, Nat.reduceSub, int_beq, Int.reduceEq, Int.reduceNeg, decide_true, decide_false, and_self, Nat.zero_add, wp_pure, beq_self_eq_true, lv114]
  by_cases e117 : c = 117
  · subst e117
    simp only [fu67, Try.f67, Option.getD_some, List.replicate, core1, fgr, execOp, opd, ofValue, putT, put, nth, forgetL, bor, binInt, shiftB, intOp, ended, resultOf, oneOrTup, List.cons_append, List.nil_append, List.length_cons, List.length_nil, Nat.reduceSub, int_beq, Int.reduceEq, Int.reduceNeg, decide_true, decide_false, and_self, Nat.zero_add, wp_pure, beq_self_eq_true, lv117]
  by_cases e118 : c = 118
  · subst e118
    simp only [fu67, Try.f67, Option.getD_some, List.replicate, core1, fgr, execOp, opd, ofValue, putT, put, nth, forgetL, bor, binInt, shiftB, intOp, ended, resultOf, oneOrTup, List.cons_append, List.nil_append, List.length_cons, List.length_nil, Nat.reduceSub, int_beq, Int.reduceEq, Int.reduceNeg, decide_true, decide_false, and_self, Nat.zero_add, wp_pure, beq_self_eq_true, lv118]
  by_cases e119 : c = 119
  · subst e119
    simp only [fu67, Try.f67, Option.getD_some, List.replicate, core1, fgr, execOp, opd, ofValue, putT, put, nth, forgetL, bor, binInt, shiftB, intOp, ended, resultOf, oneOrTup, List.cons_append, List.nil_append, List.length_cons, List.length_nil, Nat.reduceSub, int_beq, Int.reduceEq, Int.reduceNeg, decide_true, decide_false, and_self, Nat.zero_add, wp_pure, beq_self_eq_true, lv119]
  by_cases e120 : c = 120
  · subst e120
    simp only [fu67, Try.f67, Option.getD_some, List.replicate, core1, fgr, execOp, opd, ofValue, putT, put, nth, forgetL, bor, binInt, shiftB, intOp, ended, resultOf, oneOrTup, List.cons_append, List.nil_append, List.length_cons, List.length_nil, Nat.reduceSub, int_beq, Int.reduceEq, Int.reduceNeg, decide_true, decide_false, and_self, Nat.zero_add, wp_pure, beq_self_eq_true, lv120]
  by_cases e123 : c = 123
  · subst e123
    simp only [fu67, Try.f67, Option.getD_some, List.replicate, core1, fgr, execOp, opd, ofValue, putT, put, nth, forgetL, bor, binInt, shiftB, intOp, ended, resultOf, oneOrTup, List.cons_append, List.nil_append, List.length_cons, List.length_nil, Nat.reduceSub, int_beq, Int.reduceEq, Int.reduceNeg, decide_true, decide_false, and_self, Nat.zero_add, wp_pure, beq_self_eq_true, lv123]
  by_cases e124 : c = 124
  · subst e124
    simp only [fu67, Try.f67, Option.getD_some, List.replicate, core1, fgr, execOp, opd, ofValue, putT, put, nth, forgetL, bor, binInt, shiftB, intOp, ended, resultOf, oneOrTup, List.cons_append, List.nil_append, List.length_cons, List.length_nil, Nat.reduceSub, int_beq, Int.reduceEq, Int.reduceNeg, decide_true, decide_false, and_self, Nat.zero_add, wp_pure, beq_self_eq_true, lv124]
  by_cases e125 : c = 125
  · subst e125
    simp only [fu67, Try.f67, Option.getD_some, List.replicate, core1, fgr, execOp, opd, ofValue, putT, put, nth, forgetL, bor, binInt, shiftB, intOp, ended, resultOf, oneOrTup, List.cons_append, List.nil_append, List.length_cons, List.length_nil, Nat.reduceSub, int_beq, Int.reduceEq, Int.reduceNeg, decide_true, decide_false, and_self, Nat.zero_add, wp_pure, beq_self_eq_true, lv125]
  by_cases e116 : c = 116
  · subst e116
    simp only [fu67, Try.f67, Option.getD_some, List.replicate, core1, fgr, execOp, opd, ofValue, putT, put, nth, forgetL, bor, binInt, shiftB, intOp, ended, resultOf, oneOrTup, List.cons_append, List.nil_append, List.length_cons, List.length_nil, Nat.reduceSub, Int.reduceNeg, decide_true, and_self, Nat.zero_add, wp_pure, beq_self_eq_true, lv116]
  by_cases e108 : c = 108
  · subst e108
    simp only [fu67, Try.f67, Option.getD_some, List.replicate, core1, fgr, execOp, opd, ofValue, putT, put, nth, forgetL, bor, binInt, shiftB, intOp, ended, resultOf, oneOrTup, List.cons_append, List.nil_append, List.length_cons, List.length_nil, Nat.reduceSub, int_beq, Int.reduceEq, Int.reduceNeg, decide_true, decide_false, and_self, Nat.zero_add, wp_pure, beq_self_eq_true, lv108]
  by_cases e115 : c = 115
  · subst e115
    simp only [fu67, Try.f67, Option.getD_some, List.replicate, core1, fgr, execOp, opd, ofValue, putT, put, nth, forgetL, bor, binInt, shiftB, intOp, ended, resultOf, oneOrTup, List.cons_append, List.nil_append, List.length_cons, List.length_nil, Nat.reduceSub, int_beq, Int.reduceEq, Int.reduceNeg, decide_true, decide_false, and_self, Nat.zero_add, wp_pure, beq_self_eq_true, lv115]
  by_cases e130 : c = 130
  · subst e130
    simp only [fu67, Try.f67, Option.getD_some, List.replicate, core1, fgr, execOp, opd, ofValue, putT, put, nth, forgetL, bor, binInt, shiftB, intOp, ended, resultOf, oneOrTup, List.cons_append, List.nil_append, List.length_cons, List.length_nil, Nat.reduceSub, int_beq, Int.reduceEq, Int.reduceNeg, decide_true, decide_false, and_self, Nat.zero_add, wp_pure, beq_self_eq_true, lv130]
  by_cases e107 : c = 107
  · subst e107
    simp only [fu67, Try.f67, Option.getD_some, List.replicate, core1, fgr, execOp, opd, ofValue, putT, put, nth, forgetL, bor, binInt, shiftB, intOp, ended, resultOf, oneOrTup, List.cons_append, List.nil_append, List.length_cons, List.length_nil, Nat.reduceSub, int_beq, Int.reduceEq, Int.reduceNeg, decide_true, decide_false, and_self, Nat.zero_add, wp_pure, beq_self_eq_true, lv107]
  by_cases e121 : c = 121
  · subst e121
    simp only [fu67, Try.f67, Option.getD_some, List.replicate, core1, fgr, execOp, opd, ofValue, putT, put, nth, forgetL, bor, binInt, shiftB, intOp, ended, resultOf, oneOrTup, List.cons_append, List.nil_append, List.length_cons, List.length_nil, Nat.reduceSub, int_beq, Int.reduceEq, Int.reduceNeg, decide_true, decide_false, and_self, Nat.zero_add, wp_pure, beq_self_eq_true, lv121]
  by_cases e122 : c = 122
  · subst e122
    simp only [fu67, Try.f67, Option.getD_some, List.replicate, core1, fgr, execOp, opd, ofValue, putT, put, nth, forgetL, bor, binInt, shiftB, intOp, ended, resultOf, oneOrTup, List.cons_append, List.nil_append, List.length_cons, List.length_nil, Nat.reduceSub, int_beq, Int.reduceEq, Int.reduceNeg, decide_true, decide_false, and_self, Nat.zero_add, wp_pure, beq_self_eq_true, lv122]
  have hn := lvN (frN e109 e110 e111 e112 e113 e114 e117 e118 e119 e120 e123 e124 e125) e116 e108 e115 e130 e107 e121 e122
  simp only [fu67, Try.f67, Option.getD_some, List.replicate, core1, fgr, execOp, opd, ofValue, putT, put, nth, forgetL, bor, binInt, shiftB, intOp, ended, resultOf, oneOrTup, List.cons_append, List.nil_append, List.length_cons, List.length_nil, Nat.reduceSub, int_beq, Int.reduceNeg, decide_true, decide_false, and_self, Nat.zero_add, wp_pure, hn, e109, e110, e111, e112, e113, e114, e117, e118, e119, e120, e123, e124, e125, e116, e108, e115, e130, e107, e121, e122]
def c67 (h : Hp) (n : Nat) (c : Int) := opv_det (f67 h n c)
theorem f44 (h : Hp) (n : Nat) (c : Int) : Wp (callI env (evalW env) 44 [.int .u8 c]) h n fun v' h' n' => v' = .bool (decide (0 ≤ leastV c)) ∧ h' = h ∧ n' = n := by
  refine wp_callI ff44 fi44 ?_
  simp only [fu44, Try.f44, Option.getD_some, List.replicate, core1, fgr, hkr, execOp, opd, opds, ofValue, putT, put, nth, forgetL, doCall, callV_func, bor, binInt, shiftB, intOp, ended, resultOf, oneOrTup, List.cons_append, List.nil_append, List.append_nil, List.length_cons, List.length_nil, Nat.reduceSub, ge_iff_le, decide_true, and_self, Nat.zero_add, wp_pure, c67]
def c44 (h : Hp) (n : Nat) (c : Int) := opv_det (f44 h n c)
theorem f100 (c : Int) (h : Hp) (n : Nat) (hf : Free h n) : Wp (callI env (evalW env) 100 [.int .u8 c]) h n fun v' h' n' => ∃ s, v' = .tup [s, .bool (isF c)] ∧ Rds h' 1 s (idxs c).length ((idxs c).map iN) ∧ (∀ j, ownId s = some j → n ≤ j) ∧ Old h h' n := by
  refine wp_callI ff100 fi100 ?_
  by_cases e109 : c = 109
  · subst e109
    simp only [fu100, Try.f100, Option.getD_some, List.replicate, core1, fgr, execOp, opd, ofValue, putT, put, nth, forgetL, bor, binInt, shiftB, intOp, ended, resultOf, oneOrTup, List.cons_append, List.nil_append, List.length_cons, List.length_nil, Nat.reduceSub, int_beq, Int.reduceEq, decide_true, decide_false, true_and, Nat.zero_add, wp_pure, beq_self_eq_true, true_and, List.length_cons, List.length_nil, if109, ix109]
    exact ⟨_, rfl, .nils, fun j hj => (by cases hj), Old.refl _ _⟩
  by_cases e110 : c = 110
  · subst e110
    simp only [fu100, Try.f100, Option.getD_some, List.replicate, core1, tyr, fgr, execOp, opd, ofValue, ops2, putT, put, nth, forgetL, und, bor, binInt, shiftB, intOp, cel, newRow, getO, ended, resultOf, oneOrTup, List.cons_append, List.nil_append, List.append_nil, List.length_cons, List.length_nil, Nat.reduceAdd, Nat.reduceSub, Nat.beq, int_beq, Int.reduceEq, decide_true, decide_false, Bool.not_false, Bool.and_true, Bool.true_and, true_and, Nat.zero_add, Nat.zero_mul, wp_pure, beq_self_eq_true, buildSlice, reps, fill, List.take_succ_cons, List.take_zero, List.drop_succ_cons, List.drop_zero, Nat.ble, Nat.mul_one, Nat.one_mul, true_and, List.length_cons, List.length_nil, Nat.zero_mul, if110, ix110]
    exact ⟨_, rfl, row_rds (upd_same _ _ _) rfl, fun j hj => by injection hj with hj; omega, fun j hj => upd_ne _ _ (by omega)⟩
  by_cases e111 : c = 111
  · subst e111
    simp only [fu100, Try.f100, Option.getD_some, List.replicate, core1, tyr, fgr, execOp, opd, ofValue, ops2, putT, put, nth, forgetL, und, bor, binInt, shiftB, intOp, cel, newRow, getO, ended, resultOf, oneOrTup, List.cons_append, List.nil_append, List.append_nil, List.length_cons, List.length_nil, Nat.reduceAdd, Nat.reduceSub, Nat.beq, int_beq, Int.reduceEq, decide_true, decide_false, Bool.not_false, Bool.and_true, Bool.true_and, true_and, Nat.zero_add, Nat.zero_mul, wp_pure, beq_self_eq_true, buildSlice, reps, fill, List.take_succ_cons, List.take_zero, List.drop_succ_cons, List.drop_zero, Nat.ble, Nat.mul_one, Nat.one_mul, true_and, List.length_cons, List.length_nil, Nat.zero_mul, if111, ix111]
    exact ⟨_, rfl, row_rds (upd_same _ _ _) rfl, fun j hj => by injection hj with hj; omega, fun j hj => upd_ne _ _ (by omega)⟩
  by_cases e112 : c = 112
  · subst e112
    simp only [fu100, Try.f100, Option.getD_some, List.replicate, core1, tyr, fgr, execOp, opd, ofValue, ops2, putT, put, nth, forgetL, und, bor, binInt, shiftB, intOp, cel, newRow, getO, ended, resultOf, oneOrTup, List.cons_append, List.nil_append, List.append_nil, List.length_cons, List.length_nil, Nat.reduceAdd, Nat.reduceSub, Nat.beq, int_beq, Int.reduceEq, decide_true, decide_false, Bool.not_false, Bool.and_true, Bool.true_and, true_and, Nat.zero_add, Nat.zero_mul, wp_pure, beq_self_eq_true, buildSlice, reps, fill, List.take_succ_cons, List.take_zero, List.drop_succ_cons, List.drop_zero, Nat.ble, Nat.mul_one, Nat.one_mul, true_and, List.length_cons, List.length_nil, Nat.zero_mul, if112, ix112]
    exact ⟨_, rfl, row_rds (upd_same _ _ _) rfl, fun j hj => by injection hj with hj; omega, fun j hj => upd_ne _ _ (by omega)⟩
  by_cases e113 : c = 113
  · subst e113
    simp only [fu100, Try.f100, Option.getD_some, List.replicate, core1, tyr, fgr, execOp, opd, ofValue, ops2, putT, put, nth, forgetL, und, bor, binInt, shiftB, intOp, cel, newRow, getO, ended, resultOf, oneOrTup, List.cons_append, List.nil_append, List.append_nil, List.length_cons, List.length_nil, Nat.reduceAdd, Nat.reduceSub, Nat.beq, int_beq, Int.reduceEq, decide_true, decide_false, Bool.not_false, Bool.and_true, Bool.true_and, true_and, Nat.zero_add, Nat.zero_mul, wp_pure, beq_self_eq_true, buildSlice, reps, fill, List.take_succ_cons, List.take_zero, List.drop_succ_cons, List.drop_zero, Nat.ble, Nat.mul_one, Nat.one_mul, true_and, List.length_cons, List.length_nil, Nat.zero_mul, if113, ix113]
    exact ⟨_, rfl, row_rds (upd_same _ _ _) rfl, fun j hj => by injection hj with hj; omega, fun j hj => upd_ne _ _ (by omega)⟩
  by_cases e114 : c = 114
  · subst e114
    simp only [fu100, Try.f100, Option.getD_some, List.replicate, core1, tyr, fgr, execOp, opd, ofValue, ops2, putT, put, nth, forgetL, und, bor, binInt, shiftB, intOp, cel, newRow, getO, ended, resultOf, oneOrTup, List.cons_append, List.nil_append, List.append_nil, List.length_cons, List.length_nil, Nat.reduceAdd, Nat.reduceSub, Nat.beq, int_beq, Int.reduceEq, decide_true, decide_false, Bool.not_false, Bool.and_true, Bool.true_and, true_and, Nat.zero_add, Nat.zero_mul, wp_pure, beq_self_eq_true, buildSlice, reps, fill, List.take_succ_cons, List.take_zero, List.drop_succ_cons, List.drop_zero, Nat.ble, Nat.mul_one, Nat.one_mul, true_and, List.length_cons, List.length_nil, Nat.zero_mul, if114, ix114]
    exact ⟨_, rfl, row_rds (upd_same _ _ _) rfl, fun j hj => by injection hj with hj; omega, fun j hj => upd_ne _ _ (by omega)⟩
  by_cases e117 : c = 117
  · subst e117
    simp only [fu100, Try.f100, Option.getD_some, List.replicate, core1, fgr, execOp, opd, ofValue, putT, put, nth, forgetL, bor, binInt, shiftB, intOp, ended, resultOf, oneOrTup, List.cons_append, List.nil_append, List.length_cons, List.length_nil, Nat.reduceSub, decide_true, true_and, Nat.zero_add, wp_pure, beq_self_eq_true, true_and, List.length_cons, List.length_nil, if117, ix117]
    exact ⟨_, rfl, .nils, fun j hj => (by cases hj), Old.refl _ _⟩
  by_cases e118 : c = 118
  · subst e118
    simp only [fu100, Try.f100, Option.getD_some, List.replicate, core1, tyr, fgr, execOp, opd, ofValue, ops2, putT, put, nth, forgetL, und, bor, binInt, shiftB, intOp, cel, newRow, getO, ended, resultOf, oneOrTup, List.cons_append, List.nil_append, List.append_nil, List.length_cons, List.length_nil, Nat.reduceAdd, Nat.reduceSub, Nat.beq, int_beq, Int.reduceEq, decide_true, decide_false, Bool.not_false, Bool.and_true, Bool.true_and, true_and, Nat.zero_add, Nat.zero_mul, wp_pure, beq_self_eq_true, buildSlice, reps, fill, List.take_succ_cons, List.take_zero, List.drop_succ_cons, List.drop_zero, Nat.ble, Nat.one_mul, true_and, List.length_cons, List.length_nil, Nat.zero_mul, if118, ix118]
    exact ⟨_, rfl, row_rds (upd_same _ _ _) rfl, fun j hj => by injection hj with hj; omega, fun j hj => upd_ne _ _ (by omega)⟩
  by_cases e119 : c = 119
  · subst e119
    simp only [fu100, Try.f100, Option.getD_some, List.replicate, core1, tyr, fgr, execOp, opd, ofValue, ops2, putT, put, nth, forgetL, und, bor, binInt, shiftB, intOp, cel, newRow, getO, ended, resultOf, oneOrTup, List.cons_append, List.nil_append, List.append_nil, List.length_cons, List.length_nil, Nat.reduceSub, Nat.beq, int_beq, Int.reduceEq, decide_true, decide_false, Bool.not_false, Bool.and_true, Bool.true_and, true_and, Nat.zero_add, Nat.zero_mul, wp_pure, beq_self_eq_true, buildSlice, reps, fill, List.take_zero, List.drop_succ_cons, List.drop_zero, Nat.ble, Nat.one_mul, true_and, List.length_cons, List.length_nil, Nat.zero_mul, if119, ix119]
    exact ⟨_, rfl, row_rds (upd_same _ _ _) rfl, fun j hj => by injection hj with hj; omega, fun j hj => upd_ne _ _ (by omega)⟩
  by_cases e120 : c = 120
  · subst e120
    simp only [fu100, Try.f100, Option.getD_some, List.replicate, core1, tyr, fgr, execOp, opd, ofValue, ops2, putT, put, nth, forgetL, und, bor, binInt, shiftB, intOp, cel, newRow, getO, ended, resultOf, oneOrTup, List.cons_append, List.nil_append, List.append_nil, List.length_cons, List.length_nil, Nat.reduceAdd, Nat.reduceSub, Nat.beq, int_beq, Int.reduceEq, decide_true, decide_false, Bool.not_false, Bool.and_true, Bool.true_and, true_and, Nat.zero_add, Nat.zero_mul, wp_pure, beq_self_eq_true, buildSlice, reps, fill, List.take_succ_cons, List.take_zero, List.drop_succ_cons, List.drop_zero, Nat.ble, Nat.mul_one, Nat.one_mul, true_and, List.length_cons, List.length_nil, Nat.zero_mul, if120, ix120]
    exact ⟨_, rfl, row_rds (upd_same _ _ _) rfl, fun j hj => by injection hj with hj; omega, fun j hj => upd_ne _ _ (by omega)⟩
  by_cases e123 : c = 123
  · subst e123
    simp only [fu100, Try.f100, Option.getD_some, List.replicate, core1, tyr, fgr, execOp, opd, ofValue, ops2, putT, put, nth, forgetL, und, bor, binInt, shiftB, intOp, cel, newRow, getO, ended, resultOf, oneOrTup, List.cons_append, List.nil_append, List.append_nil, List.length_cons, List.length_nil, Nat.reduceAdd, Nat.reduceSub, Nat.beq, int_beq, Int.reduceEq, decide_true, decide_false, Bool.not_false, Bool.and_true, Bool.true_and, true_and, Nat.zero_add, Nat.zero_mul, wp_pure, beq_self_eq_true, buildSlice, reps, fill, List.take_succ_cons, List.take_zero, List.drop_succ_cons, List.drop_zero, Nat.ble, Nat.mul_one, Nat.one_mul, true_and, List.length_cons, List.length_nil, Nat.zero_mul, if123, ix123]
    exact ⟨_, rfl, row_rds (upd_same _ _ _) rfl, fun j hj => by injection hj with hj; omega, fun j hj => upd_ne _ _ (by omega)⟩
  by_cases e124 : c = 124
  · subst e124
    simp only [fu100, Try.f100, Option.getD_some, List.replicate, core1, tyr, fgr, execOp, opd, ofValue, ops2, putT, put, nth, forgetL, und, bor, binInt, shiftB, intOp, cel, newRow, getO, ended, resultOf, oneOrTup, List.cons_append, List.nil_append, List.append_nil, List.length_cons, List.length_nil, Nat.reduceAdd, Nat.reduceSub, Nat.beq, int_beq, Int.reduceEq, decide_true, decide_false, Bool.not_false, Bool.and_true, Bool.true_and, true_and, Nat.zero_add, Nat.zero_mul, wp_pure, beq_self_eq_true, buildSlice, reps, fill, List.take_succ_cons, List.take_zero, List.drop_succ_cons, List.drop_zero, Nat.ble, Nat.one_mul, true_and, List.length_cons, List.length_nil, Nat.zero_mul, if124, ix124]
    exact ⟨_, rfl, row_rds (upd_same _ _ _) rfl, fun j hj => by injection hj with hj; omega, fun j hj => upd_ne _ _ (by omega)⟩
  by_cases e125 : c = 125
  · subst e125
    simp only [fu100, Try.f100, Option.getD_some, List.replicate, core1, tyr, fgr, execOp, opd, ofValue, ops2, putT, put, nth, forgetL, und, bor, binInt, shiftB, intOp, cel, newRow, getO, ended, resultOf, oneOrTup, List.cons_append, List.nil_append, List.append_nil, List.length_cons, List.length_nil, Nat.reduceAdd, Nat.reduceSub, Nat.beq, int_beq, Int.reduceEq, decide_true, decide_false, Bool.not_false, Bool.and_true, Bool.true_and, true_and, Nat.zero_add, Nat.zero_mul, wp_pure, beq_self_eq_true, buildSlice, reps, fill, List.take_succ_cons, List.take_zero, List.drop_succ_cons, List.drop_zero, Nat.ble, Nat.mul_one, Nat.one_mul, true_and, List.length_cons, List.length_nil, Nat.zero_mul, if125, ix125]
    exact ⟨_, rfl, row_rds (upd_same _ _ _) rfl, fun j hj => by injection hj with hj; omega, fun j hj => upd_ne _ _ (by omega)⟩
  have hn := ixN (frN e109 e110 e111 e112 e113 e114 e117 e118 e119 e120 e123 e124 e125)
  simp only [fu100, Try.f100, Option.getD_some, List.replicate, core1, fgr, execOp, opd, ofValue, putT, put, nth, forgetL, bor, binInt, shiftB, intOp, ended, resultOf, oneOrTup, List.cons_append, List.nil_append, List.length_cons, List.length_nil, Nat.reduceSub, int_beq, decide_true, decide_false, true_and, Nat.zero_add, wp_pure, hn.1, hn.2.2.2, e109, e110, e111, e112, e113, e114, e117, e118, e119, e120, e123, e124, e125]
  exact ⟨_, rfl, .nils, fun j hj => (by cases hj), Old.refl _ _⟩
/-- What a change leaves, but for the elements' blocks. -/
structure Ch2 (h : Hp) (n : Nat) (M : Nat → Prop) (h' : Hp) (n' : Nat) (M' : Nat → Prop) : Prop where
  nx : n ≤ n'
  fr : Free h' n'
  m' : ∀ j, M' j → M j ∨ n ≤ j
  old : ∀ j, j < n → ¬ M j → h' j = h j
theorem Ch2.trans {h h1 h2 : Hp} {n n1 n2 : Nat} {M M1 M2 : Nat → Prop} (a : Ch2 h n M h1 n1 M1) (b : Ch2 h1 n1 M1 h2 n2 M2) : Ch2 h n M h2 n2 M2 where
  nx := Nat.le_trans a.nx b.nx
  fr := b.fr
  m' := fun j hj => (b.m' j hj).elim (a.m' j) (fun q => .inr (Nat.le_trans a.nx q))
  old := fun j hj hm => by
    rw [b.old j (by have := a.nx; omega) (fun q => by
      rcases a.m' j q with q | q
      · exact hm q
      · omega)]
    exact a.old j hj hm
theorem Ch2.of {h h' : Hp} {n n' : Nat} {M : Nat → Prop} (hf : Free h' n') (hn : n ≤ n') (ho : Old h h' n) : Ch2 h n M h' n' M := ⟨hn, hf, fun _ h => .inl h, fun j hj _ => ho j hj⟩
theorem Chg.ch2 {h h' : Hp} {n n' : Nat} {D D' M M' : Nat → Prop} (c : Chg h n D M h' n' D' M') : Ch2 h n M h' n' M' := ⟨c.nx, c.fr, c.m', c.old⟩
theorem Ch2.chg {h h' : Hp} {n n' : Nat} {D D' M M' : Nat → Prop} (c : Ch2 h n M h' n' M') (h1 : ∀ j, D j → D' j) (h2 : ∀ j, D' j → D j ∨ n ≤ j) : Chg h n D M h' n' D' M' := ⟨c.nx, c.fr, h1, h2, c.m', c.old⟩
theorem Stk.same {h : Hp} {n : Nat} {D D' M : Nat → Prop} {p : Nat} {ls os : List (List UInt8)} (s : Stk h n D M p ls os) (hd : ∀ j, D j ↔ D' j) : Stk h n D' M p ls os := by
  have : D = D' := funext fun j => propext (hd j)
  rw [← this]; exact s
theorem put0 (p k : Nat) (x : AVal) (ys : List AVal) (ms ls os : List (List UInt8)) (D M E : Nat → Prop) (h : Hp) (n : Nat) (hs : Stk h n D M p ls os) (hx : Rds h 1 x k ys) (hys : Els h E ys ms) (hE : ∀ j, E j → j < n ∧ ¬ M j) (hk : ls.length + k ≤ 100000) (hf : Free h n) :
    Wp (callI env (evalW env) 63 [.ptr p 0, x]) h n fun v' h' n' => v' = .tup [] ∧ ∃ M', Stk h' n' (fun j => D j ∨ E j) M' p (ls ++ ms) os ∧ Ch2 h n M h' n' M' := by
  obtain ⟨vl, vo, xl, xo, sv, mp, ml, mo, mn⟩ := hs
  have hkm : k = ms.length := by have := hx.length; have := hys.len; omega
  refine wp_mono (f63 p 0 vl x [vl, vo] ls.length k xl ys h n sv.row rfl sv.l hx hys.cells sv.pn (fun q => (sv.lp p q).1 rfl) hk hf) fun v4 h4 n4 ⟨e4, s', l4, r4', i4, o4, f4, hn4⟩ => ?_
  have sv' := sv.more (D' := fun j => D j ∨ E j) (fun j q => .inl q) (fun j q => q.elim (sv.dn j) (fun q => (hE j q).1)) (fun j q => q.elim
    (fun q => ⟨fun e => sv.pd (by rw [← e]; exact q), fun e => (sv.lp j e).2 q, fun e => (sv.op j e).2.1 q⟩)
    (fun q => ⟨fun e => (hE j q).2 (by rw [e]; exact mp), fun e => (hE j q).2 (ml j e), fun e => (hE j q).2 (mo j e)⟩))
  subst hkm
  obtain ⟨M', hs4, ch4⟩ := put_stk (ms := ms) sv' mp ml mo (fun j hj => ⟨(mn j hj).1, fun q => q.elim (mn j hj).2 (fun q => (hE j q).2 hj)⟩) l4 r4' i4 o4 f4 hn4
    (hys.mono (fun j q => .inr q) (fun j q => o4 j (hE j q).1 (fun e => (hE j q).2 (by rw [e]; exact mp)) (fun e => (hE j q).2 (ml j e)))) trivial
  exact ⟨e4, M', hs4, ch4.ch2⟩
/-- .. on the other list. -/
theorem put1 (p k : Nat) (x : AVal) (ys : List AVal) (ms ls os : List (List UInt8)) (D M E : Nat → Prop) (h : Hp) (n : Nat) (hs : Stk h n D M p ls os) (hx : Rds h 1 x k ys) (hys : Els h E ys ms) (hE : ∀ j, E j → j < n ∧ ¬ M j) (hk : os.length + k ≤ 100000) (hf : Free h n) :
    Wp (callI env (evalW env) 63 [.ptr p 1, x]) h n fun v' h' n' => v' = .tup [] ∧ ∃ M', Stk h' n' (fun j => D j ∨ E j) M' p ls (os ++ ms) ∧ Ch2 h n M h' n' M' := by
  obtain ⟨vl, vo, xl, xo, sv, mp, ml, mo, mn⟩ := hs
  have hkm : k = ms.length := by have := hx.length; have := hys.len; omega
  refine wp_mono (f63 p 1 vo x [vl, vo] os.length k xo ys h n sv.row rfl sv.o hx hys.cells sv.pn (fun q => (sv.op p q).1 rfl) hk hf) fun v4 h4 n4 ⟨e4, s', l4, r4', i4, o4, f4, hn4⟩ => ?_
  subst hkm
  have hD : ∀ j, D j ∨ E j → h4 j = h j := fun j q => q.elim (fun q => o4 j (sv.dn j q) (fun e => sv.pd (by rw [← e]; exact q)) (fun e => (sv.op j e).2.1 q)) (fun q => o4 j (hE j q).1 (fun e => (hE j q).2 (by rw [e]; exact mp)) (fun e => (hE j q).2 (mo j e)))
  have hvl : ∀ j, ownId vl = some j → h4 j = h j := fun j q => o4 j (mn j (ml j q)).1 (sv.lp j q).1 (fun e => (sv.op j e).2.2 q)
  have hnew : ∀ j, ownId s' = some j → (ownId vo = some j) ∨ (j = n ∧ n < n4) := fun j q => i4.elim (fun e => .inl (by rw [← e]; exact q)) (fun e => .inr (by rw [e.1] at q; injection q with q; exact ⟨q.symm, e.2⟩))
  have hsn : ∀ j, ownId s' = some j → j < n4 := fun j q => (hnew j q).elim (fun e => by have := (mn j (mo j e)).1; omega) (fun e => by omega)
  have hsd : ∀ j, ownId s' = some j → j ≠ p ∧ ¬ (D j ∨ E j) ∧ ownId vl ≠ some j := fun j q => by
    rcases hnew j q with e | ⟨e, e2⟩
    · exact ⟨(sv.op j e).1, fun w => w.elim (sv.op j e).2.1 (fun w => (hE j w).2 (mo j e)), (sv.op j e).2.2⟩
    · subst e
      exact ⟨fun w => by have := sv.pn; omega, fun w => w.elim (fun w => by have := sv.dn _ w; omega) (fun w => by have := (hE _ w).1; omega), fun w => by have := (mn _ (ml _ w)).1; omega⟩
  refine ⟨e4, fun j => j = p ∨ ownId vl = some j ∨ ownId s' = some j, ⟨vl, s', xl, xo ++ ys, ⟨r4', sv.l.keep hvl, sv.le.mono (fun j q => .inl q) (fun j q => hD j (.inl q)), by rw [List.length_append]; exact l4, ((sv.oe.mono (fun j q => .inl q) (fun j q => hD j (.inl q))).app (hys.mono (fun j q => .inr q) (fun j q => hD j (.inr q)))), by have := sv.pn; omega, fun j q => q.elim (fun q => by have := sv.dn j q; omega) (fun q => by have := (hE j q).1; omega), fun q => q.elim sv.pd (fun q => (hE p q).2 mp), fun j q => ⟨(sv.lp j q).1, fun w => w.elim (sv.lp j q).2 (fun w => (hE j w).2 (ml j q))⟩, hsd⟩, .inl rfl, fun j q => .inr (.inl q), fun j q => .inr (.inr q), fun j q => ?_⟩, ⟨hn4, f4, fun j q => ?_, fun j hj hm => o4 j hj (fun e => hm (by rw [e]; exact mp)) (fun e => hm (mo j e))⟩⟩
  · rcases q with q | q | q
    · subst q; exact ⟨by have := sv.pn; omega, fun w => w.elim sv.pd (fun w => (hE _ w).2 mp)⟩
    · exact ⟨by have := (mn j (ml j q)).1; omega, fun w => w.elim (sv.lp j q).2 (fun w => (hE j w).2 (ml j q))⟩
    · exact ⟨hsn j q, (hsd j q).2.1⟩
  · rcases q with q | q | q
    · rw [q]; exact .inl mp
    · exact .inl (ml j q)
    · rcases hnew j q with e | ⟨e, _⟩
      · exact .inl (mo j e)
      · exact .inr (by omega)
/-- The last ones of the main list, cut off. -/
theorem cut0 (p k : Nat) (ls os : List (List UInt8)) (D M : Nat → Prop) (h : Hp) (n : Nat) (hs : Stk h n D M p ls os) (hk : k ≤ ls.length) (hl : ls.length ≤ 100000) (hf : Free h n) :
    Wp (callI env (evalW env) 72 [.ptr p 0, .int .i64 (k : Nat)]) h n fun v' h' n' => ∃ ys, Lst h' 22 1 v' k ys ∧ Els h' D ys (ls.drop (ls.length - k)) ∧ (∀ j, ownId v' = some j → n ≤ j ∧ j < n') ∧ Stk h' n' D M p (ls.take (ls.length - k)) os ∧ Ch2 h n M h' n' M := by
  obtain ⟨vl, vo, xl, xo, sv, mp, ml, mo, mn⟩ := hs
  refine wp_mono (f72 p 0 k vl [vl, vo] ls.length xl h n sv.row rfl sv.l sv.le.cells sv.pn (fun q => (sv.lp p q).1 rfl) hk hl hf) fun v2 h2 n2 ⟨l2, i2, r2, c2, o2, f2, hn2⟩ => ?_
  exact ⟨_, l2, (sv.le.drop _).mono (fun _ q => q) (fun j q => o2 j (sv.dn j q) (fun e => sv.pd (by rw [← e]; exact q))), i2, cut_stk sv k hk mp ml mo mn r2 c2 o2 hn2, ⟨hn2, f2, fun _ q => .inl q, fun j hj hm => o2 j hj (fun e => hm (by rw [e]; exact mp))⟩⟩
theorem cut1 (p k : Nat) (ls os : List (List UInt8)) (D M : Nat → Prop) (h : Hp) (n : Nat) (hs : Stk h n D M p ls os) (hk : k ≤ os.length) (hl : os.length ≤ 100000) (hf : Free h n) :
    Wp (callI env (evalW env) 72 [.ptr p 1, .int .i64 (k : Nat)]) h n fun v' h' n' => ∃ ys, Lst h' 22 1 v' k ys ∧ Els h' D ys (os.drop (os.length - k)) ∧ (∀ j, ownId v' = some j → n ≤ j ∧ j < n') ∧ Stk h' n' D M p ls (os.take (os.length - k)) ∧ Ch2 h n M h' n' M := by
  obtain ⟨vl, vo, xl, xo, sv, mp, ml, mo, mn⟩ := hs
  refine wp_mono (f72 p 1 k vo [vl, vo] os.length xo h n sv.row rfl sv.o sv.oe.cells sv.pn (fun q => (sv.op p q).1 rfl) hk hl hf) fun v2 h2 n2 ⟨l2, i2, r2, c2, o2, f2, hn2⟩ => ?_
  have hd : ∀ j, D j → h2 j = h j := fun j q => o2 j (sv.dn j q) (fun e => sv.pd (by rw [← e]; exact q))
  refine ⟨_, l2, (sv.oe.drop _).mono (fun _ q => q) hd, i2, ⟨vl, _, xl, _, ⟨r2, sv.l.keep fun j hj => o2 j (mn j (ml j hj)).1 (sv.lp j hj).1, sv.le.mono (fun _ h => h) hd, by rw [List.length_take, Nat.min_eq_left (by omega)]; exact c2, (sv.oe.take _).mono (fun _ h => h) hd, by have := sv.pn; omega, fun j hj => by have := sv.dn j hj; omega, sv.pd, sv.lp, fun j hj => ?_⟩, mp, ml, fun j hj => ?_, fun j hj => ⟨by have := (mn j hj).1; omega, (mn j hj).2⟩⟩, ⟨hn2, f2, fun _ q => .inl q, fun j hj hm => o2 j hj (fun e => hm (by rw [e]; exact mp))⟩⟩
  · rw [cut_id] at hj; exact sv.op j hj
  · rw [cut_id] at hj; exact mo j hj
theorem Stk.d {h : Hp} {n : Nat} {D M : Nat → Prop} {p : Nat} {ls os : List (List UInt8)} (s : Stk h n D M p ls os) : ∀ j, D j → j < n ∧ ¬ M j := fun j hj => by
  obtain ⟨vl, vo, xl, xo, sv, mp, ml, mo, mn⟩ := s
  exact ⟨sv.dn j hj, fun q => (mn j q).2 hj⟩
theorem Stk.m {h : Hp} {n : Nat} {D M : Nat → Prop} {p : Nat} {ls os : List (List UInt8)} (s : Stk h n D M p ls os) : ∀ j, M j → j < n ∧ ¬ D j := by
  obtain ⟨vl, vo, xl, xo, sv, mp, ml, mo, mn⟩ := s
  exact mn
theorem Stk.p {h : Hp} {n : Nat} {D M : Nat → Prop} {p : Nat} {ls os : List (List UInt8)} (s : Stk h n D M p ls os) : M p ∧ p < n := by
  obtain ⟨vl, vo, xl, xo, sv, mp, ml, mo, mn⟩ := s
  exact ⟨mp, sv.pn⟩
/- Numbers on a stack; an element is deleted, picked, rolled. -/
def top (ls : List (List UInt8)) : List UInt8 := topL ls 0
def numE (ls : List (List UInt8)) : Int := if ls = [] then 120 else decE (top ls)
def numV (ls : List (List UInt8)) : Int := if ls = [] then 0 else decN (top ls)
def numL (ls : List (List UInt8)) : List (List UInt8) := if numE ls = 0 then popL ls else ls
theorem decE_cases (l : List UInt8) : decE l = 0 ∨ (decE l = 110 ∧ decN l = 0) := by
  unfold decE decN
  cases decB l
  · exact .inr ⟨rfl, rfl⟩
  · exact .inl rfl
theorem topE0 {ls : List (List UInt8)} (h : ls ≠ []) : topE ls 0 = 0 := if_pos (by have := List.length_pos_iff.2 h; omega)
theorem top_mem {ls : List (List UInt8)} (k : Int) : topL ls k ∈ ls ∨ topL ls k = [] := by
  unfold topL
  split
  · rename_i h
    refine .inl ?_
    rw [List.getD_eq_getElem?_getD, List.getElem?_eq_getElem (by omega)]
    exact List.getElem_mem _
  · exact .inr rfl
theorem top_len {ls : List (List UInt8)} {m : Nat} (hel : ∀ l ∈ ls, l.length ≤ m) (k : Int) : (topL ls k).length ≤ m := by
  rcases top_mem (ls := ls) k with h | h
  · exact hel _ h
  · rw [h]; exact Nat.zero_le _
theorem f53 (p : Nat) (ls os : List (List UInt8)) (D M : Nat → Prop) (h : Hp) (n : Nat) (hs : Stk h n D M p ls os) (hl : ls.length ≤ 100000) (hel : ∀ l ∈ ls, l.length ≤ 900000) (hf : Free h n) :
    Wp (callI env (evalW env) 53 [.ptr p 0]) h n fun v' h' n' => v' = .tup [.int .i64 (numV ls), .int .i64 (numE ls)] ∧ Stk h' n' D M p (numL ls) os ∧ Ch2 h n M h' n' M := by
  refine wp_callI ff53 fi53 ?_
  simp only [fu53, Try.f53, Option.getD_some, List.replicate, core1, fgr, hkr, execOp, opd, opds, ofValue, putT, put, nth, forgetL, doCall, callV_func, ended, resultOf, oneOrTup, List.cons_append, List.nil_append, List.append_nil, List.length_cons, List.length_nil, Nat.reduceSub, Nat.zero_add, wp_pure]
  refine opv_callf hf (f43 p 0 ls os D M h n hs hl (fun l hl => by have := hel l hl; omega) hf) fun v1 h1 n1 hn1 f1 ⟨s, e1, b1, i1, o1⟩ => ?_
  subst e1
  have hs1 := hs.old hn1 o1
  by_cases c : ls = []
  · subst c
    have ce : topE [] 0 = 120 := rfl
    simp only [core1, fgr, execOp, opd, ofValue, putT, put, nth, forgetL, bor, binInt, shiftB, intOp, extract, getO, List.getElem?_cons_succ, List.getElem?_cons_zero, int_bne, Int.reduceEq, not_false_eq_true, decide_true, true_and, ce]
    exact ⟨rfl, hs1, .of f1 hn1 o1⟩
  have hE : numE ls = decE (top ls) := if_neg c
  have hV : numV ls = decN (top ls) := if_neg c
  simp only [core1, fgr, hkr, execOp, opd, opds, ofValue, putT, put, nth, forgetL, doCall, callV_func, bor, binInt, shiftB, intOp, extract, getO, List.getElem?_cons_succ, List.getElem?_cons_zero, List.nil_append, List.append_nil, decide_true, bne_self_eq_false, topE0 c]
  have htl := top_len (m := 900000) hel 0
  have hbel : Below0 n1 s := by
    cases s <;> first | trivial | (exact (i1 _ rfl).2)
  refine opv_callf f1 (f18 s (topL ls 0) h1 n1 b1 hbel (by omega)) fun v2 h2 n2 hn2 f2 ⟨e2, o2⟩ => ?_
  subst e2
  have hs2 := hs1.old hn2 o2
  have o12 : Old h h2 n := fun j hj => (o2 j (by omega)).trans (o1 j hj)
  rcases decE_cases (topL ls 0) with d | ⟨d, d2⟩
  · have d' : decE (top ls) = 0 := d
    simp only [core1, tyr, fgr, hkr, execOp, opd, opds, ofValue, putT, put, nth, forgetL, doCall, callV_func, und, sizeOf, bor, binInt, shiftB, intOp, nilCheck, extract, getO, moved, fieldAddr, List.getElem?_cons_succ, List.getElem?_cons_zero, List.nil_append, List.append_nil, decide_true, Nat.zero_add, beq_self_eq_true, d]
    refine opv_callf f2 (cut0 p 1 ls os D M h2 n2 hs2 (by have := List.length_pos_iff.2 c; omega) hl f2) fun v3 h3 n3 hn3 f3 ⟨ys, l3, e3, i3, s3, c3⟩ => ?_
    simp only [core1, fgr, execOp, opd, putT, put, nth, forgetL, true_and]
    refine ⟨by rw [hV, hE, d']; rfl, ?_, (Ch2.of f2 (by omega) o12).trans c3⟩
    unfold numL
    rw [hE, d', if_pos rfl]; exact s3
  · have d' : decE (top ls) = 110 := d
    simp only [core1, fgr, execOp, opd, ofValue, putT, put, nth, forgetL, bor, binInt, shiftB, intOp, extract, getO, List.getElem?_cons_succ, List.getElem?_cons_zero, int_beq, Int.reduceEq, decide_true, decide_false, true_and, d]
    refine ⟨by rw [hV, hE, d']; rfl, ?_, .of f2 (by omega) o12⟩
    unfold numL
    rw [hE, d', if_neg (by decide)]; exact hs2
/-- Bytes of one's own, in new memory. -/
def MadeN (h : Hp) (n : Nat) (l : List UInt8) (v : AVal) (h' : Hp) (n' : Nat) : Prop := Bytes h' v l ∧ (∀ j, ownId v = some j → n ≤ j ∧ j < n') ∧ Old h h' n
theorem f54n (x : Int) (h1 : -9223372036854775808 < x) (h2 : x ≤ 9223372036854775807) (h : Hp) (n : Nat) : Wp (callI env (evalW env) 54 [.int .i64 x]) h n (MadeN h n (fmB x)) := by
  obtain ⟨neg, m, e1, e2, e3, e4⟩ := sv_of x
  have := f54 neg m (by omega) e2 h n
  rw [← e1, e3, e4] at this
  exact wp_mono this fun v h' n' ⟨cnt, a, b, c⟩ => ⟨a.bytes, fun j hj => ⟨b j hj, a.id_lt hj⟩, c⟩
theorem f17r (x : Int) (h1 : -9223372036854775808 ≤ x) (h2 : x ≤ 9223372036854775807) (h : Hp) (n : Nat) : Wp (callI env (evalW env) 17 [.int .i64 x]) h n fun v h' n' => ∃ s, v = .tup [s, .int .i64 (encE x)] ∧ MadeN h n (encL x) s h' n' := by
  refine wp_callI ff17 fi17 ?_
  by_cases e1 : x ≤ -549755813888
  · have hw : wideB x = true := by simp [wideB, e1]
    simp only [fu17, Try.f17, Option.getD_some, List.replicate, core1, fgr, execOp, opd, ofValue, putT, put, nth, forgetL, bor, binInt, shiftB, intOp, doPick, branch, ended, resultOf, oneOrTup, List.getElem?_cons_succ, List.getElem?_cons_zero, List.cons_append, List.nil_append, List.length_cons, List.length_nil, Nat.reduceSub, Int.reduceNeg, decide_true, true_and, Nat.zero_add, wp_pure, e1, encL, encE, hw]
    exact ⟨.nils, rfl, .nils, fun j hj => (by cases hj), Old.refl _ _⟩
  · by_cases e2 : 549755813888 ≤ x
    · have hw : wideB x = true := by simp [wideB, e2]
      simp only [fu17, Try.f17, Option.getD_some, List.replicate, core1, fgr, execOp, opd, ofValue, putT, put, nth, forgetL, bor, binInt, shiftB, intOp, doPick, branch, ended, resultOf, oneOrTup, List.getElem?_cons_succ, List.getElem?_cons_zero, List.cons_append, List.nil_append, List.length_cons, List.length_nil, Nat.reduceSub, Int.reduceNeg, ge_iff_le, decide_true, decide_false, true_and, Nat.zero_add, wp_pure, e1, e2, encL, encE, hw]
      exact ⟨.nils, rfl, .nils, fun j hj => (by cases hj), Old.refl _ _⟩
    · have hw : wideB x = false := by simp [wideB, e1, e2]
      simp only [fu17, Try.f17, Option.getD_some, List.replicate, core1, fgr, hkr, execOp, opd, opds, ofValue, putT, put, nth, forgetL, doCall, callV_func, bor, binInt, shiftB, intOp, doPick, branch, ended, resultOf, oneOrTup, List.getElem?_cons_succ, List.getElem?_cons_zero, List.cons_append, List.nil_append, List.append_nil, List.length_cons, List.length_nil, Nat.reduceSub, Int.reduceNeg, ge_iff_le, decide_true, decide_false, Nat.zero_add, wp_pure, e1, e2, encL, encE, hw]
      refine opv_call (f54n x (by omega) (by omega) h n) fun v h' n' hn hv => ?_
      simp only [core1, fgr, execOp, opd, ofValue, putT, put, nth, forgetL, true_and]
      exact ⟨v, rfl, hv⟩
theorem or_idem {D : Nat → Prop} (j : Nat) : D j ∨ D j ↔ D j := ⟨fun q => q.elim id id, .inl⟩
theorem f101 (p k : Nat) (ls os : List (List UInt8)) (D M : Nat → Prop) (h : Hp) (n : Nat) (hs : Stk h n D M p ls os) (hl : ls.length ≤ 10000) (hk : k ≤ 1000000000) (hf : Free h n) :
    Wp (callI env (evalW env) 101 [.ptr p 0, .int .i64 (k : Nat)]) h n fun v' h' n' => ∃ D' M', Stk h' n' D' M' p (ls ++ [encL (k : Nat)]) os ∧ Chg h n D M h' n' D' M' := by
  refine wp_callI ff101 fi101 ?_
  simp only [fu101, Try.f101, Option.getD_some, List.replicate, core1, hkr, execOp, opd, opds, putT, put, nth, doCall, callV_func, ended, resultOf, oneOrTup, List.cons_append, List.nil_append, List.append_nil, List.length_cons, List.length_nil, Nat.reduceAdd, Nat.reduceSub, Nat.zero_add, wp_pure]
  refine opv_callf hf (f17r (k : Nat) (by omega) (by omega) h n) fun v1 h1 n1 hn1 f1 ⟨s, e1, b1, i1, o1⟩ => ?_
  subst e1
  simp only [core1, tyr, fgr, execOp, opd, ops2, putT, put, nth, forgetL, und, sizeOf, nilCheck, extract, getO, moved, fieldAddr, List.getElem?_cons_succ, List.getElem?_cons_zero, Nat.zero_add]
  rw [bs22 s b1.kind]
  refine opv_row ti22 f1 fun h2 g2 o2 f2 => ?_
  have b2 : Bytes h2 s (encL (k : Nat)) := b1.keep fun j hj => o2 j (by have := (i1 j hj).2; omega)
  have old2 : Old h h2 n := fun j hj => by rw [o2 j (by omega), o1 j hj]
  have hs2 := hs.old (n' := n1 + 1) (by omega) old2
  simp only [core1, hkr, execOp, opd, opds, putT, put, nth, doCall, callV_func, List.nil_append, List.append_nil]
  refine opv_callf f2 (put0 p 1 _ [s] [encL (k : Nat)] ls os D M (fun j => ownId s = some j) h2 (n1 + 1) hs2 (row_rds g2 rfl) (Els.one ⟨b2, fun j q => q⟩) (fun j q => ⟨by have := (i1 j q).2; omega, fun w => by have := (i1 j q).1; have := (hs.m j w).1; omega⟩) (by omega) f2) fun v3 h3 n3 hn3 f3 ⟨e3, M', s3, c3⟩ => ?_
  subst e3
  simp only [core1, fgr, putT, put, forgetL, true_and]
  exact ⟨_, M', s3, ((Ch2.of f2 (by omega) old2).trans c3).chg (fun j q => .inl q) (fun j q => q.elim .inl (fun q => .inr (i1 j q).1))⟩
/-- An element is deleted. -/
theorem f106 (id i cnt : Nat) (cap : Option Nat) (cells : List AVal) (h : Hp) (n : Nat) (hh : h id = some (.row (.l cells) 22)) (hi : i < cnt) (hl : cnt ≤ cells.length) (hcap : ∀ k, cap = some k → cnt ≤ k ∧ k ≤ cells.length) (hone : (cells.take cnt).all oneCell = true) (hc : cnt ≤ 100000) (hid : id < n) (hf : Free h n) :
    Wp (callI env (evalW env) 106 [.sl id 0 cnt cap 1, .int .i64 (i : Nat), .int .i64 ((i + 1 : Nat) : Int)]) h n fun v' h' n' => ∃ v2, v' = v2 ∧ Lst h' 22 1 v2 (cnt - 1) ((cells.take cnt).take i ++ (cells.take cnt).drop (i + 1)) ∧ ownId v2 = some id ∧ (∀ j, j ≠ id → h' j = h j) ∧ n' = n := by
  refine wp_callI ff106 fi106 ?_
  have hL : Lst h 22 1 (.sl id 0 cnt cap 1) cnt (cells.take cnt) := by
    have := Lst.sl (h := h) (e := 22) (sz := 1) id cnt cap cells _ hh (by omega) (fun k hk => by have := hcap k hk; omega) rfl
    rwa [Nat.mul_one] at this
  have ne : ¬ ((i : Nat) : Int) = ((i + 1 : Nat) : Int) := by omega
  have hb : ((cnt : Nat) : Int) ≤ ((cap.getD cnt : Nat) : Int) := by
    cases cap with
    | none => simp only [Option.getD_none]; omega
    | some c => have := (hcap c rfl).1; simp only [Option.getD_some]; omega
  have h3 : Rd (slice env 53 (.sl id 0 cnt cap 1) (some (.int .i64 (i : Nat))) (some (.int .i64 ((i + 1 : Nat) : Int))) (some (.int .i64 (cnt : Nat)))) h n [] (.sl id i (i + 1 - i) (some (cnt - i)) 1) := by
    simp only [slice, u53, s22, bind_pure, bound, intK, bind_assoc, sameSz, Nat.mul_one, Nat.zero_add, Int.toNat_natCast]
    exact Rd.bind (i2 := []) (Rd.ob (decide_eq_true ⟨by omega, hb⟩)) (Rd.bind (i2 := []) (Rd.ob (decide_eq_true ⟨by omega, by omega⟩)) (Rd.bind (i2 := []) (Rd.ob (decide_eq_true ⟨by omega, by omega⟩)) (Rd.pure _)))
  simp only [fu106, Try.f106, Option.getD_some, List.replicate, core1, fgr, execOp, opd, opds, opt, ofValue, putT, put, nth, forgetL, doCall, builtin, one1, ended, resultOf, oneOrTup, List.cons_append, List.nil_append, List.length_cons, List.length_nil, Nat.reduceAdd, Nat.reduceSub, Nat.zero_add, wp_pure, hL.rds.bLen u53]
  rw [opv_rd h3]
  simp only [core1, fgr, execOp, opd, opds, putT, put, nth, forgetL, doCall, builtin, one1, bor, binInt, shiftB, intOp, int_beq, decide_true, decide_false, ne, hL.rds.bLen u53]
  refine run_draw ⟨rfl, ?_⟩
  simp only [fe_cons, fev_pure, execOp, opd, opt, putT, put, nth, Nat.reduceAdd, Nat.zero_add]
  rw [fev_rd (hL.rds.head_rd hL.roomy u53 s22 rfl (by omega))]
  simp only [fe_cons, fev_pure, execOp, opd, opt, putT, put, nth, Nat.reduceAdd]
  rw [fev_rd (hL.rds.tail_rd u53 s22 rfl (by omega))]
  simp only [fe_cons, execOp, opd, opds, putT, put, nth, doCall, builtin, two2, Nat.reduceAdd]
  have hsub := hL.rds.sub (lo := i + 1) (hi := cnt) (by omega) (Nat.le_refl _)
  have e0 : (subOf 0 i (.sl id 0 cnt cap 1)) = .sl id 0 i cap 1 := by
    cases cap <;> simp only [subOf, Nat.zero_mul, Nat.add_zero, Nat.sub_zero]
  generalize hys : (((cells.take cnt).drop ((i + 1) * 1)).take ((cnt - (i + 1)) * 1)) = ys at hsub
  have hyl : ys.length = cnt - (i + 1) := by have := hsub.length; omega
  have hye : ys = (cells.take cnt).drop (i + 1) := by
    rw [← hys, Nat.mul_one, Nat.mul_one, List.take_of_length_le (by rw [List.length_drop, List.length_take]; omega)]
  have hyo : ys.all oneCell = true := by
    rw [hye]
    rw [List.all_eq_true] at hone ⊢
    exact fun x hx => hone x (List.mem_of_mem_drop hx)
  rw [e0]
  have hsl : (splice cells i ys).length = cells.length := splice_len (by omega)
  refine fev_any hf (Q1 := fun v' h' n' => v' = .sl id 0 (cnt - 1) cap 1 ∧ h' = upd h id (some (.row (.l (splice cells i ys)) 22)) ∧ n' = n) ?_ fun v1 h1 n1 r1 w1 hn1 f1 ⟨a1, a2, a3⟩ => ?_
  · refine wp_append_in (i := ⟨.slice 5, 1, 24, .nils⟩) (e := 22) hh hsub u53 u53 ti22 hyo (by decide) (by show (i + (cnt - (i + 1))) * 1 ≤ _; omega) (fun m hm => by have := hcap m hm; omega) ?_
    rw [show i + (cnt - (i + 1)) = cnt - 1 by omega, show i * (⟨.slice 5, 1, 24, .nils⟩ : TI).size = i from Nat.mul_one i]
    exact ⟨rfl, rfl, rfl⟩
  subst a1; subst a2; subst a3
  simp only [fe_nil, fe_cons, fev_pure, core1, fgr, execOp, opd, opds, opt, putT, put, nth, forgetL, doCall, builtin, one1, blr, Nat.reduceAdd]
  refine ⟨(by (try simp (disch := first | assumption | omega) only [fine, List.all_cons, List.all_nil, clash_pl, clash_pr, Bool.not_false, Bool.true_or, Bool.and_true]); repeat' (first | rfl | exact (Bool.or_eq_true _ _).mpr (.inr rfl) | refine (Bool.and_eq_true _ _).mpr ⟨?_, ?_⟩)), ?_⟩
  have hL2 : Lst (upd h id (some (.row (.l (splice cells i ys)) 22))) 22 1 (.sl id 0 (cnt - 1) cap 1) (cnt - 1) ((splice cells i ys).take (cnt - 1)) := by
    have := Lst.sl (h := upd h id (some (.row (.l (splice cells i ys)) 22))) (e := 22) (sz := 1) id (cnt - 1) cap _ _ (upd_same _ _ _) (by rw [hsl]; omega) (fun k hk => by rw [hsl]; have := hcap k hk; omega) rfl
    rwa [Nat.mul_one] at this
  have hp := upd_same h id (some (.row (.l (splice cells i ys)) 22))
  have f2 : Free (upd h id (some (.row (.l (splice cells i ys)) 22))) n1 := f1
  have o2 : ∀ j, j ≠ id → upd h id (some (.row (.l (splice cells i ys)) 22)) j = h j := fun j hj => upd_ne _ _ hj
  generalize upd h id (some (.row (.l (splice cells i ys)) 22)) = h2 at *
  have h5 : ∃ ids, Rd (slice env 53 (.sl id 0 (cnt - 1) cap 1) (some (.int .i64 ((cnt - 1 : Nat) : Int))) (some (.int .i64 (cnt : Nat))) none) h2 n1 ids (.sl id (cnt - 1) (cnt - (cnt - 1)) (match cap with | some c => some (c - (cnt - 1)) | none => none) 1) := by
    cases cap with
    | none =>
      have nle : ¬ ((cnt : Nat) : Int) ≤ ((cnt - 1 : Nat) : Int) := by omega
      refine ⟨[id], ?_⟩
      simp only [slice, u53, s22, bind_pure, bound, intK, bind_assoc, sameSz, Nat.mul_one, Nat.zero_add, Int.toNat_natCast, roomOf, decide_eq_false nle]
      refine Rd.bind (i2 := []) (Rd.get hp) ?_
      simp only [rowK, bind_pure, Cont.size, hsl]
      exact Rd.bind (i2 := []) (Rd.ob (decide_eq_true ⟨by omega, by rw [Nat.sub_zero, Nat.div_one]; omega⟩)) (Rd.bind (i2 := []) (Rd.ob (decide_eq_true ⟨by omega, by omega⟩)) (Rd.pure _))
    | some c =>
      have := hcap c rfl
      refine ⟨[], ?_⟩
      simp only [slice, u53, s22, bind_pure, bound, intK, bind_assoc, sameSz, Nat.mul_one, Nat.zero_add, Int.toNat_natCast]
      exact Rd.bind (i2 := []) (Rd.ob (decide_eq_true ⟨by omega, by omega⟩)) (Rd.bind (i2 := []) (Rd.ob (decide_eq_true ⟨by omega, by omega⟩)) (Rd.pure _))
  obtain ⟨ids, h5⟩ := h5
  rw [opv_rd h5]
  have nb : (cnt - (cnt - 1)).beq 0 = false := beq_of (by omega)
  have c1 : cnt - (cnt - 1) = 1 := by omega
  have hbl : (cnt - 1 + 1).ble cells.length = true := ble_of (by omega)
  simp only [core1, tyr, fgr, execOp, opd, opds, putT, put, nth, forgetL, doCall, builtin, one1, und, cel, rowK, sameSz, List.append_nil, List.length_cons, List.length_nil, Nat.beq, not_false_eq_true, Bool.and_true, and_true, true_and, Nat.zero_add, reduceCtorEq, bClear, opv_ask, sameSz, c1, reps, writeCells, opv_get, hp, Option.some.injEq, exists_eq_left', rowK, opv_ob, Cont.size, hsl, hbl, List.all_cons, List.all_nil, oneCell, opv_set, ne_eq]
  rw [setAll_l _ _ _ (by rw [hsl]; simp; omega)]
  refine ⟨?_, rfl, fun j hj => by rw [upd_ne _ _ hj]; exact o2 j hj⟩
  have hs2 : (splice (splice cells i ys) (cnt - 1) [.nils]).length = cells.length := by rw [splice_len (by rw [hsl]; simp; omega), hsl]
  have := Lst.sl (h := upd h2 id (some (.row (.l (splice (splice cells i ys) (cnt - 1) [.nils])) 22))) (e := 22) (sz := 1) id (cnt - 1) cap _ ((cells.take cnt).take i ++ (cells.take cnt).drop (i + 1)) (upd_same _ _ _) (by rw [hs2]; omega) (fun k hk => by rw [hs2]; have := hcap k hk; omega) ?_
  · exact this
  · rw [Nat.mul_one, ← hye, List.take_take, Nat.min_eq_left (by omega)]
    refine List.ext_getElem? fun j => ?_
    rw [List.getElem?_take]
    by_cases q : j < cnt - 1
    · rw [if_pos q, spq_get (by rw [hsl]; simp; omega), if_neg (by omega), spq_get (by omega)]
      by_cases q2 : i ≤ j
      · rw [if_pos (by omega), List.getElem?_append_right (by rw [List.length_take]; omega), List.length_take, Nat.min_eq_left (by omega)]
      · rw [if_neg (by omega), List.getElem?_append_left (by rw [List.length_take]; omega), List.getElem?_take, if_pos (by omega)]
    · rw [if_neg q, List.getElem?_eq_none (by rw [List.length_append, List.length_take]; omega)]
/- Picked and rolled; an operation on a stack of one's own. -/
def farE (ls : List (List UInt8)) : Int := if numE ls = 0 then (if 0 ≤ numV ls ∧ numV ls < (popL ls).length then 0 else 120) else numE ls
def outI (ls : List (List UInt8)) (i : Nat) : List (List UInt8) := ls.take i ++ ls.drop (i + 1)
def farL (roll : Bool) (ls : List (List UInt8)) : List (List UInt8) := (match roll with | true => outI (popL ls) ((popL ls).length - 1 - (numV ls).toNat) | false => popL ls) ++ [topL (popL ls) (numV ls)]
theorem popL_len (ls : List (List UInt8)) : (popL ls).length = ls.length - 1 := by unfold popL; rw [List.length_take]; omega
theorem set_stk {h h' : Hp} {n n' : Nat} {D M : Nat → Prop} {p : Nat} {vl vo v2 : AVal} {xl xo ys : List AVal} {ls os ms : List (List UInt8)} (sv : StkV h n D p vl vo xl xo ls os) (mp : M p) (ml : ∀ j, ownId vl = some j → M j) (mo : ∀ j, ownId vo = some j → M j) (mn : ∀ j, M j → j < n ∧ ¬ D j)
    (hl : Lst h' 22 1 v2 ms.length ys) (hys : Els h' D ys ms) (hr : ∃ e, h' p = some (.row (.l [v2, vo]) e)) (hid : ∀ j, ownId v2 = some j → n ≤ j ∧ j < n') (ho : ∀ j, j < n → j ≠ p → h' j = h j) (hf : Free h' n') (hn : n ≤ n') : ∃ M', Stk h' n' D M' p ms os ∧ Ch2 h n M h' n' M' := by
  have hd : ∀ j, D j → h' j = h j := fun j hj => ho j (sv.dn j hj) (fun q => sv.pd (by rw [← q]; exact hj))
  have hvo : ∀ j, ownId vo = some j → h' j = h j := fun j hj => ho j (mn j (mo j hj)).1 (sv.op j hj).1
  refine ⟨fun j => j = p ∨ ownId v2 = some j ∨ ownId vo = some j, ⟨v2, vo, ys, xo, ⟨hr, hl, hys, sv.o.keep hvo, sv.oe.mono (fun _ h => h) hd, by have := sv.pn; omega, fun j hj => by have := sv.dn j hj; omega, sv.pd, fun j hj => ⟨fun e => by have := (hid j hj).1; have := sv.pn; omega, fun e => by have := (hid j hj).1; have := sv.dn j e; omega⟩, fun j hj => ⟨(sv.op j hj).1, (sv.op j hj).2.1, fun q => by have := (hid j q).1; have := (mn j (mo j hj)).1; omega⟩⟩, .inl rfl, fun j hj => .inr (.inl hj), fun j hj => .inr (.inr hj), fun j hj => ?_⟩, ⟨hn, hf, fun j hj => ?_, fun j hj hm => ho j hj (fun e => hm (by rw [e]; exact mp))⟩⟩
  · rcases hj with q | q | q
    · subst q; exact ⟨by have := sv.pn; omega, sv.pd⟩
    · exact ⟨(hid j q).2, fun e => by have := (hid j q).1; have := sv.dn j e; omega⟩
    · exact ⟨by have := (mn j (mo j q)).1; omega, (sv.op j q).2.1⟩
  · rcases hj with q | q | q
    · rw [q]; exact .inl mp
    · exact .inr (hid j q).1
    · exact .inl (mo j q)
set_option maxHeartbeats 4000000 in
theorem f102 (p : Nat) (roll : Bool) (ls os : List (List UInt8)) (D M : Nat → Prop) (h : Hp) (n : Nat) (hs : Stk h n D M p ls os) (hl : ls.length ≤ 10000) (hel : ∀ l ∈ ls, l.length ≤ 900000) (hf : Free h n) :
    Wp (callI env (evalW env) 102 [.ptr p 0, .bool roll]) h n fun v' h' n' => v' = .int .i64 (farE ls) ∧ ∃ M', Ch2 h n M h' n' M' ∧ (farE ls = 0 → Stk h' n' D M' p (farL roll ls) os) := by
  refine wp_callI ff102 fi102 ?_
  simp only [fu102, Try.f102, Option.getD_some, List.replicate, core1, fgr, hkr, execOp, opd, opds, ofValue, putT, put, nth, forgetL, doCall, callV_func, ended, resultOf, oneOrTup, List.cons_append, List.nil_append, List.append_nil, List.length_cons, List.length_nil, Nat.reduceAdd, Nat.reduceSub, Nat.zero_add, wp_pure]
  refine opv_callf hf (f53 p ls os D M h n hs (by omega) hel hf) fun v1 h1 n1 hn1 f1 ⟨e1, s1, c1⟩ => ?_
  subst e1
  by_cases hE : numE ls = 0
  case neg =>
    have hfe : farE ls = numE ls := if_neg hE
    simp only [core1, fgr, execOp, opd, ofValue, putT, put, nth, forgetL, bor, binInt, shiftB, intOp, extract, getO, List.getElem?_cons_succ, List.getElem?_cons_zero, int_bne, not_false_eq_true, decide_true, true_and, hE]
    exact ⟨by rw [hfe], M, c1, fun q => absurd (hfe.symm.trans q) hE⟩
  have hL : numL ls = popL ls := if_pos hE
  rw [hL] at s1
  have hpl := popL_len ls
  by_cases h0 : numV ls < 0
  · have hfe : farE ls = 120 := by unfold farE; rw [if_pos hE, if_neg (by omega)]
    simp only [core1, fgr, execOp, opd, ofValue, putT, put, nth, forgetL, bor, binInt, shiftB, intOp, doPick, branch, extract, getO, List.getElem?_cons_succ, List.getElem?_cons_zero, decide_true, true_and, bne_self_eq_false, hE, h0]
    exact ⟨by rw [hfe], M, c1, fun q => by rw [hfe] at q; cases q⟩
  obtain ⟨k, hk⟩ : ∃ k : Nat, numV ls = (k : Nat) := ⟨(numV ls).toNat, by omega⟩
  rw [hk] at h0
  obtain ⟨vl, vo, xl, xo, sv, mp, ml, mo, mn⟩ := s1
  simp only [core1, tyr, fgr, hkr, execOp, opd, opds, ofValue, putT, put, nth, forgetL, doCall, callV_func, und, sizeOf, bor, binInt, shiftB, intOp, nilCheck, extract, getO, moved, fieldAddr, List.getElem?_cons_succ, List.getElem?_cons_zero, List.nil_append, List.append_nil, decide_true, decide_false, Nat.zero_add, bne_self_eq_false, hE, hk, h0]
  refine opv_same (f66 p 0 vl [vl, vo] (popL ls).length xl h1 n1 sv.row rfl sv.l.rds) ?_
  by_cases h2 : (((popL ls).length : Nat) : Int) ≤ ((k : Nat) : Int)
  · have hfe : farE ls = 120 := by unfold farE; rw [if_pos hE, if_neg (by rw [hk]; omega)]
    simp only [core1, fgr, execOp, opd, ofValue, putT, put, nth, forgetL, bor, binInt, shiftB, intOp, doPick, branch, List.getElem?_cons_succ, List.getElem?_cons_zero, ge_iff_le, decide_true, true_and, h2]
    exact ⟨by rw [hfe], M, c1, fun q => by rw [hfe] at q; cases q⟩
  have hfe : farE ls = 0 := by unfold farE; rw [if_pos hE, if_pos (by rw [hk]; omega)]
  simp only [core1, tyr, fgr, hkr, execOp, opd, opds, ofValue, putT, put, nth, forgetL, doCall, callV_func, und, sizeOf, bor, binInt, shiftB, intOp, doPick, branch, nilCheck, getO, moved, fieldAddr, List.getElem?_cons_succ, List.getElem?_cons_zero, List.nil_append, List.append_nil, ge_iff_le, decide_true, decide_false, Nat.zero_add, h2]
  obtain ⟨x, hx, hxe⟩ := elx sv.le (k := k) (by omega)
  have hxt : topL (popL ls) (k : Nat) = (popL ls).getD ((popL ls).length - 1 - k) [] := by unfold topL; rw [if_pos (by omega), Int.toNat_natCast]
  rw [← hxt] at hxe
  refine opv_callf f1 (f71 p 0 k (popL ls).length vl x [vl, vo] xl h1 n1 sv.row rfl sv.l.rds (by omega) (by omega) hx hxe.1.kind sv.pn (fun j hj => (mn j (ml j hj)).1) f1) fun v3 h3 n3 hn3 f3 ⟨e3, o3⟩ => ?_
  subst e3
  have sv3 := sv.keep (h' := h3) hn3 (o3 p sv.pn) (fun j hj => o3 j (mn j (ml j hj)).1) (fun j hj => o3 j (mn j (mo j hj)).1) (fun j hj => o3 j (sv.dn j hj))
  have mn3 : ∀ j, M j → j < n3 ∧ ¬ D j := fun j hj => ⟨by have := (mn j hj).1; omega, (mn j hj).2⟩
  have c3 : Ch2 h n M h3 n3 M := c1.trans (.of f3 hn3 o3)
  have hxe3 : El h3 D v3 (topL (popL ls) (k : Nat)) := hxe.mono (fun _ q => q) (fun j hj => o3 j (sv.dn j hj))
  cases roll with
  | false =>
    have hfl : farL false ls = popL ls ++ [topL (popL ls) (k : Nat)] := by unfold farL; rw [hk]
    simp only [core1, tyr, fgr, execOp, opd, ops2, putT, put, nth, forgetL, und, sizeOf, nilCheck, getO, moved, fieldAddr, List.getElem?_cons_zero, Nat.zero_add]
    rw [bs22 v3 hxe.1.kind]
    refine opv_row ti22 f3 fun h4 g4 o4 f4 => ?_
    have o4' : Old h3 h4 n3 := fun j hj => o4 j (by omega)
    have s4 : Stk h4 (n3 + 1) D M p (popL ls) os := (show Stk h3 n3 D M p (popL ls) os from ⟨vl, vo, xl, xo, sv3, mp, ml, mo, mn3⟩).old (by omega) o4'
    simp only [core1, hkr, execOp, opd, opds, putT, put, nth, doCall, callV_func, List.nil_append, List.append_nil]
    refine opv_callf f4 (put0 p 1 _ [v3] [topL (popL ls) (k : Nat)] (popL ls) os D M D h4 (n3 + 1) s4 (row_rds g4 rfl) (Els.one (hxe3.mono (fun _ q => q) (fun j hj => o4 j (by have := sv3.dn j hj; omega)))) s4.d (by omega) f4) fun v5 h5 n5 hn5 f5 ⟨e5, M', s5, c5⟩ => ?_
    subst e5
    simp only [core1, fgr, execOp, opd, ofValue, putT, put, nth, forgetL, true_and]
    refine ⟨by rw [hfe], M', (c3.trans (.of f4 (by omega) o4')).trans c5, fun _ => ?_⟩
    rw [hfl]
    exact s5.same or_idem
  | true =>
    have hfl : farL true ls = outI (popL ls) ((popL ls).length - 1 - k) ++ [topL (popL ls) (k : Nat)] := by unfold farL; rw [hk]; rfl
    have w1 : IntKind.i64.wrap ((((popL ls).length : Nat) : Int) - 1) = (((popL ls).length - 1 : Nat) : Int) := by rw [w64 (by omega) (by omega)]; omega
    have w2 : IntKind.i64.wrap ((((popL ls).length - 1 : Nat) : Int) - ((k : Nat) : Int)) = (((popL ls).length - 1 - k : Nat) : Int) := by rw [w64 (by omega) (by omega)]; omega
    have w3 : IntKind.i64.wrap ((((popL ls).length - 1 - k : Nat) : Int) + 1) = (((popL ls).length - 1 - k + 1 : Nat) : Int) := by rw [w64 (by omega) (by omega)]; omega
    simp only [core1, tyr, fgr, hkr, execOp, opd, opds, putT, put, nth, forgetL, doCall, callV_func, und, sizeOf, nilCheck, getO, moved, fieldAddr, List.getElem?_cons_zero, List.nil_append, List.append_nil, Nat.zero_add]
    refine opv_same (f66 p 0 vl [vl, vo] (popL ls).length xl h3 n3 sv3.row rfl sv3.l.rds) ?_
    simp only [core1, tyr, fgr, execOp, opd, ofValue, putT, put, nth, forgetL, und, sizeOf, bor, binInt, shiftB, intOp, wrapI, nilCheck, getO, moved, fieldAddr, List.getElem?_cons_zero, decide_true, Nat.zero_add, w1, w2]
    rw [opv_rd (Row.one (off := 0) sv3.row rfl ti53 rfl)]
    simp only [core1, hkr, execOp, opd, opds, putT, put, nth, doCall, callV_func, List.nil_append, List.append_nil]
    refine opv_callf f3 (f68 vl (popL ls).length xl h3 n3 sv3.l.rds (sv3.l.eqNil u53).1 (fun q => ((sv3.l.eqNil (E := env) u53).2 q).2.2) sv3.le.cells (fun j hj => (mn3 j (ml j hj)).1) (by omega) f3) fun v4 h4 n4 hn4 f4 ⟨l4, i4, o4⟩ => ?_
    simp only [core1, hkr, execOp, opd, opds, ofValue, putT, put, nth, doCall, callV_func, bor, binInt, shiftB, intOp, wrapI, List.nil_append, List.append_nil, decide_true, w3]
    have hxl4 := l4.rds.length
    obtain ⟨id, cap, cells, rfl, hh4, hl4, hc4, hx4⟩ := l4.inv (by omega)
    rw [Nat.mul_one] at hl4 hx4
    have hxl3 := sv3.le.len
    refine opv_callf f4 (f106 id ((popL ls).length - 1 - k) (popL ls).length cap cells h4 n4 hh4 (by omega) hl4 (fun m hm => by have := hc4 m hm; omega) (by rw [hx4]; exact sv3.le.cells) (by omega) (i4 id rfl).2 f4) fun v5 h5 n5 hn5 f5 ⟨v6, e6, l6, i6, o6, en6⟩ => ?_
    subst e6; subst en6
    rw [hx4] at l6
    have o5 : Old h3 h5 n3 := fun j hj => by rw [o6 j (by have := (i4 id rfl).1; omega)]; exact o4 j hj
    obtain ⟨er, hr3⟩ := sv3.row
    have hr5 : h5 p = some (.row (.l [vl, vo]) er) := (o5 p sv3.pn).trans hr3
    simp only [core1, tyr, execOp, opd, putT, put, nth, und, sizeOf, nilCheck, getO, moved, fieldAddr, List.getElem?_cons_zero, Nat.zero_add]
    rw [opv_wr (Row.write hr5 ti53 (by rw [l6.rds.kind.1]; rfl) (by show 0 + 1 ≤ 2; omega) (by rw [l6.rds.kind.1]; simp [l6.rds.kind.2.1]))]
    rw [show splice [vl, vo] 0 v5.cells = [v5, vo] by rw [l6.rds.kind.1]; rfl]
    have i6n : ∀ j, ownId v5 = some j → n3 ≤ j ∧ j < n5 := fun j hj => by rw [i6] at hj; injection hj with hj; subst hj; exact i4 _ rfl
    have hOut : Els (upd h5 p (some (.row (.l [v5, vo]) er))) D (xl.take ((popL ls).length - 1 - k) ++ xl.drop ((popL ls).length - 1 - k + 1)) (outI (popL ls) ((popL ls).length - 1 - k)) := ((sv3.le.take _).app (sv3.le.drop _)).mono (fun _ q => q) (fun j hj => by rw [upd_ne _ _ (fun q => sv3.pd (by rw [← q]; exact hj))]; exact o5 j (sv3.dn j hj))
    have hOl : (outI (popL ls) ((popL ls).length - 1 - k)).length = (popL ls).length - 1 := by unfold outI; rw [List.length_append, List.length_take, List.length_drop]; omega
    have l7 : Lst (upd h5 p (some (.row (.l [v5, vo]) er))) 22 1 v5 (outI (popL ls) ((popL ls).length - 1 - k)).length (xl.take ((popL ls).length - 1 - k) ++ xl.drop ((popL ls).length - 1 - k + 1)) := by
      rw [hOl]; exact l6.keep fun j hj => upd_ne _ _ (fun q => by have := (i6n j hj).1; have := sv3.pn; omega)
    obtain ⟨M5, s5, c5⟩ := set_stk sv3 mp ml mo mn3 l7 hOut ⟨er, upd_same _ _ _⟩ (fun j hj => i6n j hj) (fun j hj hne => by rw [upd_ne _ _ hne]; exact o5 j hj) (f5.upd (by have := sv3.pn; omega)) (by omega)
    have hxe5 : El (upd h5 p (some (.row (.l [v5, vo]) er))) D v3 (topL (popL ls) (k : Nat)) := hxe3.mono (fun _ q => q) (fun j hj => by rw [upd_ne _ _ (fun q => sv3.pd (by rw [← q]; exact hj))]; exact o5 j (sv3.dn j hj))
    have f5' := c5.fr
    generalize upd h5 p (some (.row (.l [v5, vo]) er)) = h6 at *
    simp only [core1, tyr, fgr, execOp, opd, ops2, putT, put, nth, forgetL, und, sizeOf, nilCheck, getO, moved, fieldAddr, List.getElem?_cons_zero, Nat.zero_add]
    rw [bs22 v3 hxe.1.kind]
    refine opv_row ti22 f5' fun h7 g7 o7 f7 => ?_
    have o7' : Old h6 h7 n5 := fun j hj => o7 j (by omega)
    have s7 := s5.old (n' := n5 + 1) (by omega) o7'
    simp only [core1, hkr, execOp, opd, opds, putT, put, nth, doCall, callV_func, List.nil_append, List.append_nil]
    refine opv_callf f7 (put0 p 1 _ [v3] [topL (popL ls) (k : Nat)] _ os D M5 D h7 (n5 + 1) s7 (row_rds g7 rfl) (Els.one (hxe5.mono (fun _ q => q) (fun j hj => o7 j (by have := (s5.d j hj).1; omega)))) s7.d (by omega) f7) fun v8 h8 n8 hn8 f8 ⟨e8, M', s8, c8⟩ => ?_
    subst e8
    simp only [core1, fgr, execOp, opd, ofValue, putT, put, nth, forgetL, true_and]
    refine ⟨by rw [hfe], M', ((c3.trans c5).trans (.of f7 (by omega) o7')).trans c8, fun _ => ?_⟩
    rw [hfl]
    exact s8.same or_idem
/- An operation on a stack of one's own. -/
def pickL (last : List (List UInt8)) (ix : List Nat) : List (List UInt8) := ix.map fun i => last.getD i []
theorem pick_succ {last : List (List UInt8)} {ix : List Nat} {i : Nat} (hi : i < ix.length) : pickL last (ix.take (i + 1)) = pickL last (ix.take i) ++ [last.getD ix[i] []] := by
  unfold pickL
  rw [List.take_add_one, List.getElem?_eq_getElem hi, Option.toList_some, List.map_append]; rfl
theorem u114 : und env 114 = M.pure (.slice 3) := rfl
theorem s3 : sizeOf env 3 = M.pure 1 := rfl
set_option maxHeartbeats 4000000 in
theorem loop69 (Q : Post0) (ks : List Kf) (p k n0 : Nat) (ix : List Nat) (vs v7 c : AVal) (ys : List AVal) (base last os : List (List UInt8)) (D M0 : Nat → Prop) (h0 : Hp) (hix : ∀ i ∈ ix, i < last.length) (hb : base.length + ix.length ≤ 10000)
    (hq : ∀ (h : Hp) n M (x9 x15 x24 x25 x38 x43 x53 x59 x68 x74 x84 x92 : AVal), Stk h n D M p (base ++ pickL last ix) os → Ch2 h0 n0 M0 h n M → Kont env 69 none Q ks (.exit 0) (.ptr p 0 :: c :: AVal.junk :: AVal.junk :: .int .i64 0 :: vs :: .bool true :: v7 :: AVal.junk :: x9 :: AVal.junk :: AVal.junk :: AVal.junk :: AVal.junk :: AVal.junk :: x15 :: AVal.junk :: AVal.junk :: AVal.junk :: AVal.junk :: AVal.junk :: AVal.junk :: vs :: .int .i64 (ix.length : Nat) :: x24 :: x25 :: AVal.junk :: AVal.junk :: AVal.junk :: AVal.junk :: AVal.junk :: AVal.junk :: AVal.junk :: AVal.junk :: AVal.junk :: AVal.junk :: AVal.junk :: AVal.junk :: x38 :: AVal.junk :: AVal.junk :: AVal.junk :: AVal.junk :: x43 :: AVal.junk :: AVal.junk :: AVal.junk :: AVal.junk :: AVal.junk :: AVal.junk :: AVal.junk :: AVal.junk :: AVal.junk :: x53 :: AVal.junk :: AVal.junk :: AVal.junk :: AVal.junk :: AVal.junk :: x59 :: AVal.junk :: AVal.junk :: AVal.junk :: AVal.junk :: AVal.junk :: AVal.junk :: AVal.junk :: AVal.junk :: x68 :: AVal.junk :: AVal.junk :: AVal.junk :: AVal.junk :: AVal.junk :: x74 :: AVal.junk :: AVal.junk :: AVal.junk :: AVal.junk :: AVal.junk :: AVal.junk :: AVal.junk :: AVal.junk :: AVal.junk :: x84 :: AVal.junk :: AVal.junk :: AVal.junk :: AVal.junk :: AVal.junk :: AVal.junk :: AVal.junk :: x92 :: AVal.junk :: AVal.junk :: AVal.junk :: AVal.junk :: AVal.junk :: AVal.junk :: AVal.junk :: AVal.junk :: []) h n) :
    ∀ (m i : Nat) (h : Hp) (n : Nat) (M : Nat → Prop) (x9 x15 x25 x38 x43 x53 x59 x68 x74 x84 x92 : AVal), i + m = ix.length → Stk h n D M p (base ++ pickL last (ix.take i)) os → Rds h 1 vs ix.length (ix.map iN) → Rds h 1 v7 last.length ys → Els h D ys last → (∀ j, ownId vs = some j → j < n ∧ ¬ M j) → (∀ j, ownId v7 = some j → j < n ∧ ¬ M j) → Ch2 h0 n0 M0 h n M → Free h n →
    Run env 69 none Q (.loop lp69_0) ks (.ptr p 0 :: c :: AVal.junk :: AVal.junk :: .int .i64 0 :: vs :: .bool true :: v7 :: AVal.junk :: x9 :: AVal.junk :: AVal.junk :: AVal.junk :: AVal.junk :: AVal.junk :: x15 :: AVal.junk :: AVal.junk :: AVal.junk :: AVal.junk :: AVal.junk :: AVal.junk :: vs :: .int .i64 (ix.length : Nat) :: .int .i64 (i : Nat) :: x25 :: AVal.junk :: AVal.junk :: AVal.junk :: AVal.junk :: AVal.junk :: AVal.junk :: AVal.junk :: AVal.junk :: AVal.junk :: AVal.junk :: AVal.junk :: AVal.junk :: x38 :: AVal.junk :: AVal.junk :: AVal.junk :: AVal.junk :: x43 :: AVal.junk :: AVal.junk :: AVal.junk :: AVal.junk :: AVal.junk :: AVal.junk :: AVal.junk :: AVal.junk :: AVal.junk :: x53 :: AVal.junk :: AVal.junk :: AVal.junk :: AVal.junk :: AVal.junk :: x59 :: AVal.junk :: AVal.junk :: AVal.junk :: AVal.junk :: AVal.junk :: AVal.junk :: AVal.junk :: AVal.junk :: x68 :: AVal.junk :: AVal.junk :: AVal.junk :: AVal.junk :: AVal.junk :: x74 :: AVal.junk :: AVal.junk :: AVal.junk :: AVal.junk :: AVal.junk :: AVal.junk :: AVal.junk :: AVal.junk :: AVal.junk :: x84 :: AVal.junk :: AVal.junk :: AVal.junk :: AVal.junk :: AVal.junk :: AVal.junk :: AVal.junk :: x92 :: AVal.junk :: AVal.junk :: AVal.junk :: AVal.junk :: AVal.junk :: AVal.junk :: AVal.junk :: AVal.junk :: []) h n := by
  intro m
  induction m with
  | zero =>
    intro i h n M x9 x15 x25 x38 x43 x53 x59 x68 x74 x84 x92 hi hs hvs h7 hel hd1 hd2 ch hf
    have : i = ix.length := by omega
    subst this
    have hc : ¬ ((ix.length : Nat) : Int) < ((ix.length : Nat) : Int) := by omega
    rw [run_loop]
    simp only [lp69_0, loopsOf, Try.f69, Option.getD_some, core1, fgr, execOp, opd, putT, put, nth, forgetL, bor, binInt, shiftB, intOp, List.append_eq, List.cons_append, List.nil_append, List.append_nil, decide_true, decide_false, List.getD_cons_zero, hc]
    rw [List.take_length] at hs
    exact hq h n M _ _ _ _ _ _ _ _ _ _ _ _ hs ch
  | succ m ih =>
    intro i h n M x9 x15 x25 x38 x43 x53 x59 x68 x74 x84 x92 hi hs hvs h7 hel hd1 hd2 ch hf
    have hil : i < ix.length := by omega
    have hc : ((i : Nat) : Int) < ((ix.length : Nat) : Int) := by omega
    have hw : IntKind.i64.wrap (((i : Nat) : Int) + 1) = ((i + 1 : Nat) : Int) := by rw [w64 (by omega) (by omega)]; omega
    have hx := hix _ (List.getElem_mem hil)
    have hget : (ix.map iN)[i]? = some (.int .i64 ((ix[i] : Nat) : Int)) := by rw [List.getElem?_map, List.getElem?_eq_getElem hil]; rfl
    obtain ⟨x, hx1, hx2⟩ := hel.get hx
    rw [run_loop]
    simp only [lp69_0, loopsOf, Try.f69, Option.getD_some, core1, fgr, execOp, opd, putT, put, nth, forgetL, bor, binInt, shiftB, intOp, List.append_eq, List.cons_append, List.nil_append, List.append_nil, decide_true, List.getD_cons_zero, hc]
    rw [opv_rd (hvs.idx (j := i) u114 s3 rfl hil)]
    simp only [core1, execOp, opd, putT, put, nth, Nat.mul_one]
    rw [opv_rd (hvs.load (k := i) ti3 rfl hget)]
    simp only [core1, fgr, execOp, opd, putT, put, nth, forgetL]
    refine run_draw ⟨rfl, ?_⟩
    simp only [fe_cons, fev_pure, core1, tyr, execOp, opd, putT, put, nth, und, sizeOf, nilCheck, getO, moved, fieldAddr, List.getElem?_cons_zero, Nat.reduceAdd, Nat.zero_add]
    rw [fev_rd (h7.idx (j := ix[i]) u53 s22 rfl hx)]
    simp only [fe_cons, execOp, opd, putT, put, nth, Nat.reduceAdd, Nat.mul_one]
    rw [fev_rd (h7.load (k := ix[i]) ti22 rfl hx1)]
    simp only [fe_cons, execOp, opd, ops2, putT, put, nth, Nat.reduceAdd]
    rw [bs22 x hx2.1.kind]
    refine fev_row ti22 hf fun h1 r1 w1 g1 o1 f1 => ?_
    have o1' : Old h h1 n := fun j hj => o1 j (by omega)
    have s1 := hs.old (n' := n + 1) (by omega) o1'
    simp only [fe_cons, hkr, execOp, opd, opds, putT, put, nth, doCall, callV_func, List.nil_append, List.append_nil, Nat.reduceAdd]
    refine fev_any f1 (put0 p 1 _ [x] [last[ix[i]]] _ os D M D h1 (n + 1) s1 (row_rds g1 rfl) (Els.one (hx2.mono (fun _ q => q) (fun j hj => o1' j (hs.d j hj).1))) s1.d (by rw [List.length_append]; unfold pickL; rw [List.length_map, List.length_take]; omega) f1) fun v2 h2 n2 r2 w2 hn2 f2 ⟨e2, M', s2, c2⟩ => ?_
    subst e2
    simp only [fe_nil, core1, fgr, execOp, opd, ofValue, putT, put, nth, forgetL, bor, binInt, shiftB, intOp, wrapI, Nat.reduceAdd, decide_true]
    refine ⟨(by (try simp (disch := first | assumption | omega) only [fine, List.all_cons, List.all_nil, clash_pl, clash_pr, clash_rr, Bool.not_false, Bool.true_or, Bool.and_true]); repeat' (first | rfl | exact (Bool.or_eq_true _ _).mpr (.inr rfl) | refine (Bool.and_eq_true _ _).mpr ⟨?_, ?_⟩)), ?_⟩
    simp only [hw]
    have hget2 : last.getD ix[i] [] = last[ix[i]] := by rw [List.getD_eq_getElem?_getD, List.getElem?_eq_getElem hx]; rfl
    have ch2 : Ch2 h n M h2 n2 M' := (Ch2.of f1 (by omega) o1').trans c2
    have hk : ∀ j, (j < n ∧ ¬ M j) → h2 j = h j := fun j hj => ch2.old j hj.1 hj.2
    have hk2 : ∀ j, (j < n ∧ ¬ M j) → j < n2 ∧ ¬ M' j := fun j hj => ⟨by have := ch2.nx; omega, fun q => (ch2.m' j q).elim hj.2 (fun w => by omega)⟩
    refine ih (i + 1) h2 n2 M' _ _ _ _ _ _ _ _ _ _ _ (by omega) ?_ (hvs.keep fun j hj => hk j (hd1 j hj)) (h7.keep fun j hj => hk j (hd2 j hj)) (hel.mono (fun _ q => q) (fun j hj => hk j (hs.d j hj))) (fun j hj => hk2 j (hd1 j hj)) (fun j hj => hk2 j (hd2 j hj)) (ch.trans ch2) f2
    rw [pick_succ hil, hget2, ← List.append_assoc]
    exact s2.same or_idem
/-- What an operation makes of both lists. -/
def doE (c : Int) (ls os : List (List UInt8)) : Int := match frm c with
  | some _ => 0
  | none => if c = 107 then 0 else if c = 108 then (if os = [] then 120 else 0) else if c = 115 then 0 else if c = 116 then 0 else if c = 130 then 0 else farE ls
def doL (c : Int) (ls os : List (List UInt8)) : List (List UInt8) := match frm c with
  | some x => ls.take (ls.length - x.1) ++ pickL (ls.drop (ls.length - x.1)) x.2
  | none => if c = 107 then popL ls else if c = 108 then ls ++ [top os] else if c = 115 then (if tv (top ls) = true then ls ++ [top ls] else ls) else if c = 116 then ls ++ [encL (ls.length : Nat)] else if c = 130 then ls ++ [encL ((top ls).length : Nat)] else farL (decide (c = 122)) ls
def doO (c : Int) (ls os : List (List UInt8)) : List (List UInt8) := match frm c with
  | some _ => os
  | none => if c = 107 then os ++ [top ls] else if c = 108 then popL os else os
theorem frm_ok {c : Int} {x : Nat × List Nat} (h : frm c = some x) : (∀ i ∈ x.2, i < x.1) ∧ x.1 ≤ 6 ∧ x.2.length ≤ 6 := by
  by_cases e109 : c = 109
  · subst e109; rw [fr109] at h; injection h with h; subst h; decide
  by_cases e110 : c = 110
  · subst e110; rw [fr110] at h; injection h with h; subst h; decide
  by_cases e111 : c = 111
  · subst e111; rw [fr111] at h; injection h with h; subst h; decide
  by_cases e112 : c = 112
  · subst e112; rw [fr112] at h; injection h with h; subst h; decide
  by_cases e113 : c = 113
  · subst e113; rw [fr113] at h; injection h with h; subst h; decide
  by_cases e114 : c = 114
  · subst e114; rw [fr114] at h; injection h with h; subst h; decide
  by_cases e117 : c = 117
  · subst e117; rw [fr117] at h; injection h with h; subst h; decide
  by_cases e118 : c = 118
  · subst e118; rw [fr118] at h; injection h with h; subst h; decide
  by_cases e119 : c = 119
  · subst e119; rw [fr119] at h; injection h with h; subst h; decide
  by_cases e120 : c = 120
  · subst e120; rw [fr120] at h; injection h with h; subst h; decide
  by_cases e123 : c = 123
  · subst e123; rw [fr123] at h; injection h with h; subst h; decide
  by_cases e124 : c = 124
  · subst e124; rw [fr124] at h; injection h with h; subst h; decide
  by_cases e125 : c = 125
  · subst e125; rw [fr125] at h; injection h with h; subst h; decide
  rw [frN e109 e110 e111 e112 e113 e114 e117 e118 e119 e120 e123 e124 e125] at h; cases h
theorem drop_last {ls : List (List UInt8)} (h : ls ≠ []) : ls.drop (ls.length - 1) = [top ls] := by
  have hp := List.length_pos_iff.2 h
  unfold top topL
  rw [if_pos (by omega), List.drop_eq_getElem_cons (by omega), List.drop_of_length_le (by omega), List.getD_eq_getElem?_getD]
  simp only [Int.toNat_zero, Nat.sub_zero]
  rw [List.getElem?_eq_getElem (by omega)]; rfl
theorem elt {h : Hp} {D : Nat → Prop} {xl : List AVal} {ls : List (List UInt8)} (le : Els h D xl ls) (h0 : ls ≠ []) : ∃ x, xl[ls.length - 1 - 0]? = some x ∧ El h D x (top ls) := by
  have hp := List.length_pos_iff.2 h0
  obtain ⟨x, h1, h2⟩ := elx le (k := 0) (by omega)
  refine ⟨x, h1, ?_⟩
  unfold top topL
  rw [if_pos (by omega)]; exact h2
def DoPost (c : Int) (ls os : List (List UInt8)) (D M : Nat → Prop) (p : Nat) (h : Hp) (n : Nat) (v' : AVal) (h' : Hp) (n' : Nat) : Prop :=
  v' = .int .i64 (doE c ls os) ∧ ∃ D' M', Chg h n D M h' n' D' M' ∧ (doE c ls os = 0 → Stk h' n' D' M' p (doL c ls os) (doO c ls os))
end Go.Am.Ytmoplhbncjicbaa
