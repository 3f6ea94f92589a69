/- The functions that the statement reaches, gone through. -/
import Derived.Test.YtlgebaofkolkoaaIxNaA
set_option linter.unusedSimpArgs false
set_option linter.unusedVariables false
set_option linter.defProp false
set_option maxRecDepth 10000
namespace Go.Am.Ytlgebaofkolkoaa
open Go Go.Am Go.Proofs
theorem f33 (x : Nat) (v : Ver) (sv : AVal) (ov : v.Ok) (hsl : v.script.length ≤ 1000000) (L : List Ver) (D M : Nat → Prop) (h : Hp) (n : Nat) (hs : Ix h n D M x L) (hb : Bytes h sv v.script) (hsn : ∀ j, ownId sv = some j → j < n) (hc : L.length ≤ 900000) (hf : Free h n) :
    Wp (callI env (evalW env) 33 [.ptr x 0, .agg (vcells v sv)]) h n fun v' h' n' => (errP v L ∧ v' = .int .i64 210 ∧ Ix h' n' D M x L ∧ Chg h n D M h' n' D M) ∨ (¬ errP v L ∧ v' = .int .i64 0 ∧ ∃ D' M', Ix h' n' D' M' x (putV L v) ∧ Chg h n D M h' n' D' M') := by
  obtain ⟨⟨S, s, rS, perm⟩, rL, ok⟩ := hs
  have s0 := s
  obtain ⟨vl, vs, xl, xs, iv, mx, ml, ms, mn⟩ := s0
  refine wp_callI ff33 fi33 ?_
  simp only [fu33, Try.f33, Option.getD_some, List.replicate, core1, execOp, opd, nth, ended, resultOf, oneOrTup, List.cons_append, List.nil_append, List.length_cons, List.length_nil, Nat.reduceAdd, Nat.reduceSub, Nat.zero_add, wp_pure]
  refine opv_box (v := .agg (vcells v sv)) ti31 rfl hf fun H1 r1 o1 f1 => ?_
  have old1 : Old h H1 n := fun j hj => o1 j (by omega)
  have s1 := s.old (n' := n + 1) (by omega) old1
  simp only [core1, fgr, hkr, execOp, opd, opds, ofValue, putT, put, nth, forgetL, doCall, callV_func, List.nil_append, List.append_nil]
  refine opv_same (f73 x _ true H1 (n + 1) (iv.row.keep (old1 x iv.xn)) rfl) ?_
  simp only [core1, tyr, fgr, execOp, opd, putT, put, nth, forgetL, und, sizeOf, getO, moved, fieldAddr, List.getElem?_cons_succ, List.getElem?_cons_zero, Bool.not_true, Nat.zero_add]
  rw [opv_rd (row_made r1 ov)]
  have bad : errV v = true → (errP v L ∧ AVal.int .i64 210 = AVal.int .i64 210 ∧ Ix H1 (n + 1) D M x L ∧ Chg h n D M H1 (n + 1) D M) ∨ (¬ errP v L ∧ AVal.int .i64 210 = AVal.int .i64 0 ∧ ∃ D' M', Ix H1 (n + 1) D' M' x (putV L v) ∧ Chg h n D M H1 (n + 1) D' M') := fun e =>
    .inl ⟨.inl e, rfl, ⟨⟨S, s1, rS, perm⟩, rL, ok⟩, .of f1 (by omega) old1⟩
  by_cases c1 : v.made < 0
  · simp only [core1, opg_un, fgr, execOp, opd, ofValue, putT, put, nth, forgetL, bor, binInt, shiftB, intOp, doPick, branch, List.getElem?_cons_succ, List.getElem?_cons_zero, decide_true, true_and, c1]
    have := bad (by unfold errV; simp [c1])
    simpa using this
  simp only [core1, tyr, execOp, opd, ofValue, putT, put, nth, und, sizeOf, bor, binInt, shiftB, intOp, getO, moved, fieldAddr, List.getElem?_cons_succ, List.getElem?_cons_zero, decide_true, decide_false, Nat.zero_add, c1]
  rw [opv_rd (row_spent r1 ov)]
  have go : (v.spent = 0 ∨ (¬ v.spent = 0 ∧ ¬ v.spent < v.made ∧ ¬ v.spent < 0)) ∨ (¬ v.spent = 0 ∧ (v.spent < v.made ∨ (¬ v.spent < v.made ∧ v.spent < 0))) := by omega
  rcases go with (c2 | ⟨c2, c3, c4⟩) | ⟨c2, c3 | ⟨c3, c4⟩⟩
  rotate_left 2
  · simp only [core1, tyr, execOp, opd, ofValue, putT, put, nth, und, sizeOf, bor, binInt, shiftB, intOp, getO, moved, fieldAddr, List.getElem?_cons_succ, List.getElem?_cons_zero, int_bne, not_false_eq_true, decide_true, Nat.zero_add, c2]
    rw [opv_rd (row_spent r1 ov)]
    simp only [core1, tyr, execOp, opd, putT, put, nth, und, sizeOf, getO, moved, fieldAddr, List.getElem?_cons_succ, List.getElem?_cons_zero, Nat.zero_add]
    rw [opv_rd (row_made r1 ov)]
    simp only [core1, fgr, execOp, opd, ofValue, putT, put, nth, forgetL, bor, binInt, shiftB, intOp, doPick, branch, List.getElem?_cons_succ, List.getElem?_cons_zero, decide_true, true_and, c3]
    have := bad (by unfold errV; simp [c2, c3])
    simpa using this
  · simp only [core1, tyr, execOp, opd, ofValue, putT, put, nth, und, sizeOf, bor, binInt, shiftB, intOp, getO, moved, fieldAddr, List.getElem?_cons_succ, List.getElem?_cons_zero, int_bne, not_false_eq_true, decide_true, Nat.zero_add, c2]
    rw [opv_rd (row_spent r1 ov)]
    simp only [core1, tyr, execOp, opd, putT, put, nth, und, sizeOf, getO, moved, fieldAddr, List.getElem?_cons_succ, List.getElem?_cons_zero, Nat.zero_add]
    rw [opv_rd (row_made r1 ov)]
    simp only [core1, tyr, execOp, opd, putT, put, nth, und, sizeOf, bor, binInt, shiftB, intOp, getO, moved, fieldAddr, List.getElem?_cons_succ, List.getElem?_cons_zero, decide_true, decide_false, Nat.zero_add, c3]
    rw [opv_rd (row_spent r1 ov)]
    simp only [core1, fgr, execOp, opd, ofValue, putT, put, nth, forgetL, bor, binInt, shiftB, intOp, doPick, branch, List.getElem?_cons_succ, List.getElem?_cons_zero, decide_true, true_and, c4]
    have := bad (by unfold errV; simp [c2, c4])
    simpa using this
  all_goals
    have ne : errV v = false := by
      unfold errV
      first | (simp [c1, c2, c3, c4]; done) | (simp [c1, c2]; done)
    first
      | (simp only [core1, opg_un, tyr, execOp, opd, ofValue, putT, put, nth, und, sizeOf, bor, binInt, shiftB, intOp, doPick, branch, getO, moved, fieldAddr, List.getElem?_cons_succ, List.getElem?_cons_zero, int_bne, not_false_eq_true, decide_true, Nat.zero_add, bne_self_eq_false, c2]
         rw [opv_rd (row_pt r1 ov)])
      | (simp only [core1, tyr, execOp, opd, ofValue, putT, put, nth, und, sizeOf, bor, binInt, shiftB, intOp, getO, moved, fieldAddr, List.getElem?_cons_succ, List.getElem?_cons_zero, int_bne, not_false_eq_true, decide_true, Nat.zero_add, c2]
         rw [opv_rd (row_spent r1 ov)]
         simp only [core1, tyr, execOp, opd, putT, put, nth, und, sizeOf, getO, moved, fieldAddr, List.getElem?_cons_succ, List.getElem?_cons_zero, Nat.zero_add]
         rw [opv_rd (row_made r1 ov)]
         simp only [core1, tyr, execOp, opd, putT, put, nth, und, sizeOf, bor, binInt, shiftB, intOp, getO, moved, fieldAddr, List.getElem?_cons_succ, List.getElem?_cons_zero, decide_true, decide_false, Nat.zero_add, c3]
         rw [opv_rd (row_spent r1 ov)]
         simp only [core1, tyr, execOp, opd, ofValue, putT, put, nth, und, sizeOf, bor, binInt, shiftB, intOp, doPick, branch, getO, moved, fieldAddr, List.getElem?_cons_succ, List.getElem?_cons_zero, decide_true, decide_false, Nat.zero_add, c4]
         rw [opv_rd (row_pt r1 ov)])
    simp only [core1, tyr, execOp, opd, putT, put, nth, und, sizeOf, getO, moved, fieldAddr, List.getElem?_cons_succ, List.getElem?_cons_zero, Nat.zero_add]
    rw [opv_rd (row_made r1 ov)]
    simp only [core1, hkr, execOp, opd, opds, putT, put, nth, doCall, callV_func, List.getElem?_cons_succ, List.getElem?_cons_zero, List.nil_append, List.append_nil]
    refine opv_callf f1 (f76 x v.hash v.pn v.made ov.h L S D M H1 (n + 1) s1 rL (by omega) f1) fun v2 h2 n2 hn2 f2 ⟨hh, o2⟩ => ?_
    have old2 : Old h h2 n := fun j hj => by rw [o2 j (by omega), old1 j hj]
    have s2 := s1.old hn2 o2
    rcases hh with ⟨hno, e2⟩ | ⟨id, sw, w, hw, hkey, e2, a, d1, d2⟩
    rotate_left
    · subst e2
      simp only [core1, tyr, fgr, execOp, opd, ofValue, putT, put, nth, forgetL, und, bor, binOther, strK, aggK, doPick, branch, equalTop, equal, nilFn, nilPtr, boolOf, List.getElem?_cons_succ, List.getElem?_cons_zero, Bool.not_false, Bool.and_true, Bool.or_true, true_and]
      exact .inl ⟨.inr ⟨w, hw, hkey⟩, ⟨⟨S, s2, rS, perm⟩, rL, ok⟩, .of f2 (by omega) old2⟩
    subst e2
    simp only [core1, tyr, fgr, execOp, opd, ofValue, putT, put, nth, forgetL, und, bor, binOther, strK, aggK, doPick, branch, equalTop, equal, nilFn, nilPtr, boolOf, List.getElem?_cons_succ, List.getElem?_cons_zero, Bool.not_true, Bool.and_true, Bool.or_true]
    have r2 := r1.keep (o2 n (by omega))
    rw [opv_rd (row_all r2 ov)]
    simp only [core1, hkr, execOp, opd, opds, putT, put, nth, doCall, callV_func, List.nil_append, List.append_nil]
    refine opv_callf f2 (f77 v sv ov h2 n2 (hb.keep fun j q => old2 j (hsn j q)) (fun j q => by have := hsn j q; omega) hsl f2) fun v3 h3 n3 hn3 f3 ⟨s', e3, b3, i3, o3⟩ => ?_
    subst e3
    simp only [core1, execOp, putT, put]
    rw [opv_alloc ti31 rfl]
    simp only [core1, execOp, opd, putT, put, nth, cel]
    refine opv_hold (v := .agg (vcells v s')) ti31 rfl (vcells_len ov.h ov.b) (vcells_cell b3.kind.2.1) f3 fun H4 r4 o4 f4 => ?_
    have old4 : Old h2 H4 n2 := fun j hj => by rw [o4 j (by omega), o3 j hj]
    have s4 := s2.old (n' := n3 + 1) (by omega) old4
    have at4 : AtN H4 (n3 + 1) n3 s' v := ⟨⟨r4, b3.keep fun j q => o4 j (by have := i3 j q; omega), ov⟩, by omega, fun j q => by have := i3 j q; omega⟩
    simp only [core1, tyr, fgr, hkr, execOp, opd, opds, putT, put, nth, forgetL, doCall, callV_func, und, sizeOf, nilCheck, getO, moved, fieldAddr, List.getElem?_cons_succ, List.getElem?_cons_zero, List.nil_append, List.append_nil, Nat.zero_add]
    refine opv_callf f4 (putL x n3 s' v L S D M H4 (n3 + 1) s4 at4 (fun q => by have := (mn _ q).1; omega) (fun j q w => by have := (mn _ w).1; have := i3 j q; omega) rL (by omega) f4) fun v5 h5 n5 hn5 f5 ⟨e5, p, M5, hp, s5, c5⟩ => ?_
    subst e5
    simp only [core1, tyr, fgr, hkr, execOp, opd, opds, putT, put, nth, forgetL, doCall, callV_func, und, sizeOf, nilCheck, getO, moved, fieldAddr, List.getElem?_cons_succ, List.getElem?_cons_zero, List.nil_append, List.append_nil, Nat.zero_add]
    have nm5 : ∀ j, n2 ≤ j → j < n3 + 1 → ¬ M5 j := fun j q1 q2 w => by
      rcases c5.m' j w with w | w
      · have := (mn _ w).1; omega
      · omega
    have at5 : AtN h5 n5 n3 s' v := ⟨at4.toAt.keep (c5.old n3 (by omega) (fun q => by have := (mn _ q).1; omega)) (fun j q => c5.old j (at4.sn j q) (fun w => by have := (mn _ w).1; have := i3 j q; omega)), by omega, fun j q => by have := at4.sn j q; omega⟩
    refine opv_callf f5 (putS x n3 s' v _ S _ M5 h5 n5 s5 at5 (nm5 n3 (by omega) (by omega)) (fun j q => nm5 j (i3 j q).1 (by have := i3 j q; omega)) rS (by rw [← perm.length_eq]; omega) f5) fun v6 h6 n6 hn6 f6 ⟨e6, q, M6, hq, s6, c6⟩ => ?_
    subst e6
    simp only [core1, fgr, execOp, opd, ofValue, putT, put, nth, forgetL, true_and]
    have nP : ¬ errP v L := fun w => by
      rcases w with w | ⟨w, hw, he⟩
      · rw [ne] at w; cases w
      · exact hno w hw he
    have o04 : Old h H4 n := fun j hj => by rw [old4 j (by omega), old2 j hj]
    refine .inr ⟨nP, _, _, put_ix hp hq rL rS perm ok ⟨ov, hsl⟩ hno s6, ((Ch2.of f4 (by omega) o04).trans c5).trans c6, fun j w => .inl (.inl w), fun j w => ?_⟩
    rcases w with (w | w | w) | w | w
    · exact .inl w
    · subst w; exact .inr (by omega)
    · exact .inr (by have := i3 j w; omega)
    · subst w; exact .inr (by omega)
    · exact .inr (by have := i3 j w; omega)
/- An index: a version in the place of one; End, Back. -/
theorem del_mem {L : List Ver} {p : Nat} {w : Ver} (h : w ∈ delL L p) : w ∈ L := by
  unfold delL at h
  rcases List.mem_append.1 h with h | h
  · exact List.mem_of_mem_take h
  · exact List.mem_of_mem_drop h
/-- With the one that is dropped nothing of its key is left. -/
theorem del_no {o : Bool} {L : List Ver} {p : Nat} {w t : Ver} (r : Rises o L) (hp : Pos o L w p) (hw : w ∈ L) (he : cmpO o w t = 0) : ∀ a ∈ delL L p, cmpO o a t ≠ 0 := by
  intro a ha h0
  obtain ⟨hp1, hp2⟩ := pos_at r hp hw
  have haw : cmpO o a w = 0 := by
    have := (ordO o).eqr (d := a) he
    omega
  have e : a = w := rises_eq r (del_mem ha) hw haw
  subst e
  have pm := delL_perm hp1
  rw [hp2] at pm
  have nd : L.Nodup := by
    refine List.Pairwise.imp ?_ r
    intro a b hab e
    subst e
    have := (ordO o).refl a
    omega
  have := pm.nodup_iff.1 nd
  exact (List.nodup_cons.1 this).1 ha
theorem f80 (x id : Nat) (sw : AVal) (w v : Ver) (L : List Ver) (D M : Nat → Prop) (h : Hp) (n : Nat) (hs : Ix h n D M x L) (hw : w ∈ L) (a : At h id sw w) (d1 : D id) (d2 : ∀ j, ownId sw = some j → D j) (hv : cmpV w v = 0) (hvs : v.script = w.script) (ov : v.Ok) (hc : L.length ≤ 900000) (hf : Free h n) :
    Wp (callI env (evalW env) 80 [.ptr x 0, .ptr id 0, .agg (vcells v sw)]) h n fun v' h' n' => v' = .tup [] ∧ ∃ D' M', Ix h' n' D' M' x (putV (dropV L w) v) ∧ Chg h n D M h' n' D' M' := by
  obtain ⟨⟨S, s, rS, perm⟩, rL, ok⟩ := hs
  have s0 := s
  obtain ⟨vl, vs, xl, xs, iv, mx, ml, ms, mn⟩ := s0
  refine wp_callI ff80 fi80 ?_
  simp only [fu80, Try.f80, Option.getD_some, List.replicate, core1, execOp, opd, nth, ended, resultOf, oneOrTup, List.cons_append, List.nil_append, List.length_cons, List.length_nil, Nat.reduceAdd, Nat.reduceSub, true_and, Nat.zero_add, wp_pure]
  refine opv_box (v := .agg (vcells v sw)) ti31 rfl hf fun H1 r1 o1 f1 => ?_
  have old1 : Old h H1 n := fun j hj => o1 j (by omega)
  have s1 := s.old (n' := n + 1) (by omega) old1
  have hdm : ∀ j, D j → ¬ M j := fun j q w => (mn j w).2 q
  have a1 : AtN H1 (n + 1) id sw w := ⟨a.keep (old1 id (iv.dn id d1)) (fun j q => old1 j (iv.dn j (d2 j q))), by have := iv.dn id d1; omega, fun j q => by have := iv.dn j (d2 j q); omega⟩
  have b1 : AtN H1 (n + 1) n sw v := ⟨⟨r1, by rw [hvs]; exact a1.s, ov⟩, by omega, a1.sn⟩
  simp only [core1, tyr, fgr, hkr, execOp, opd, opds, putT, put, nth, forgetL, doCall, callV_func, und, sizeOf, nilCheck, getO, moved, fieldAddr, List.getElem?_cons_succ, List.getElem?_cons_zero, List.nil_append, List.append_nil, Nat.zero_add]
  refine opv_callf f1 (dropL x id sw w L S D M H1 (n + 1) s1 a1 rL ⟨w, hw, ordV.refl w⟩ (by omega) f1) fun v3 h3 n3 hn3 f3 ⟨e3, p, hp, hpl, s3, c3⟩ => ?_
  subst e3
  simp only [core1, tyr, fgr, hkr, execOp, opd, opds, putT, put, nth, forgetL, doCall, callV_func, und, sizeOf, nilCheck, getO, moved, fieldAddr, List.getElem?_cons_succ, List.getElem?_cons_zero, List.nil_append, List.append_nil, Nat.zero_add]
  have nM : ¬ M n := fun q => by have := (mn n q).1; omega
  have a3 : AtN h3 n3 id sw w := ⟨a1.toAt.keep (c3.old id a1.idn (hdm id d1)) (fun j q => c3.old j (a1.sn j q) (hdm j (d2 j q))), by have := a1.idn; omega, fun j q => by have := a1.sn j q; omega⟩
  have b3 : AtN h3 n3 n sw v := ⟨b1.toAt.keep (c3.old n (by omega) nM) (fun j q => c3.old j (a1.sn j q) (hdm j (d2 j q))), by omega, a3.sn⟩
  have hwS : w ∈ S := perm.mem_iff.1 hw
  refine opv_callf f3 (dropS x id sw w _ S D M h3 n3 s3 a3 rS ⟨w, hwS, ordS.refl w⟩ (by rw [← perm.length_eq]; omega) f3) fun v4 h4 n4 hn4 f4 ⟨e4, q, hq, hql, s4, c4⟩ => ?_
  subst e4
  simp only [core1, tyr, fgr, hkr, execOp, opd, opds, putT, put, nth, forgetL, doCall, callV_func, und, sizeOf, nilCheck, getO, moved, fieldAddr, List.getElem?_cons_succ, List.getElem?_cons_zero, List.nil_append, List.append_nil, Nat.zero_add]
  have b4 : AtN h4 n4 n sw v := ⟨b3.toAt.keep (c4.old n (by omega) nM) (fun j q => c4.old j (a3.sn j q) (hdm j (d2 j q))), by omega, fun j q => by have := a3.sn j q; omega⟩
  obtain ⟨hp1, hp2⟩ := pos_at rL hp hw
  obtain ⟨hq1, hq2⟩ := pos_at rS hq hwS
  have perm2 : (delL L p).Perm (delL S q) := by
    have e1 := delL_perm hp1
    have e2 := delL_perm hq1
    rw [hp2] at e1
    rw [hq2] at e2
    exact (List.perm_cons w).1 (e1.symm.trans (perm.trans e2))
  have e : delL L p = dropV L w := by unfold dropV; rw [← hp.eq]
  have ok2 : ∀ v ∈ delL L p, v.Ok ∧ v.script.length ≤ 1000000 := fun v hv => ok v (del_mem hv)
  have hno : ∀ a ∈ delL L p, cmpV a v ≠ 0 := del_no rL hp hw hv
  have rL2 := del_rises rL p
  have rS2 := del_rises rS q
  have hl2 : (delL L p).length ≤ 900000 := by have := delL_length hp1; omega
  refine opv_callf f4 (putL x n sw v _ _ D M h4 n4 s4 b4 nM (fun j q => hdm j (d2 j q)) rL2 (by omega) f4) fun v5 h5 n5 hn5 f5 ⟨e5, p5, M5, hp5, s5, c5⟩ => ?_
  subst e5
  simp only [core1, tyr, fgr, hkr, execOp, opd, opds, putT, put, nth, forgetL, doCall, callV_func, und, sizeOf, nilCheck, getO, moved, fieldAddr, List.getElem?_cons_succ, List.getElem?_cons_zero, List.nil_append, List.append_nil, Nat.zero_add]
  have nm5 : ∀ j, j < n4 → ¬ M j → ¬ M5 j := fun j q1 q2 w => by
    rcases c5.m' j w with w | w
    · exact q2 w
    · omega
  have b5 : AtN h5 n5 n sw v := ⟨b4.toAt.keep (c5.old n (by omega) nM) (fun j q => c5.old j (b4.sn j q) (hdm j (d2 j q))), by omega, fun j q => by have := b4.sn j q; omega⟩
  refine opv_callf f5 (putS x n sw v _ _ _ M5 h5 n5 s5 b5 (nm5 n (by omega) nM) (fun j q => nm5 j (b4.sn j q) (hdm j (d2 j q))) rS2 (by rw [← perm2.length_eq]; omega) f5) fun v6 h6 n6 hn6 f6 ⟨e6, q6, M6, hq6, s6, c6⟩ => ?_
  subst e6
  simp only [core1, fgr, putT, put, forgetL, true_and]
  have fin := put_ix hp5 hq6 rL2 rS2 perm2 ok2 ⟨ov, by rw [hvs]; exact (ok w hw).2⟩ hno s6
  rw [e] at fin
  refine ⟨_, _, fin, ((((Ch2.of f1 (by omega) old1).trans c3).trans c4).trans c5).trans c6, fun j w => .inl (.inl w), fun j w => ?_⟩
  rcases w with (w | w | w) | w | w
  · exact .inl w
  · subst w; exact .inr (by omega)
  · exact .inl (d2 j w)
  · subst w; exact .inr (by omega)
  · exact .inl (d2 j w)
theorem splice_mid {pre mid post vs : List AVal} {off : Nat} (h1 : pre.length = off) (h2 : mid.length = vs.length) : splice (pre ++ (mid ++ post)) off vs = pre ++ (vs ++ post) := by
  have e : (pre ++ (mid ++ post)).drop (off + vs.length) = post := by rw [← List.append_assoc, List.drop_left' (by rw [List.length_append]; omega)]
  unfold splice
  rw [List.take_left' h1, e]
theorem vsplice_spent {w : Ver} {sv : AVal} (h : w.hash.length = 32) (s : Int) : splice (vcells w sv) 37 [.int .i64 s] = vcells { w with spent := s } sv := by
  have e : vcells w sv = (pcells w.hash w.pn ++ [.int .i64 w.made, .int .i64 w.value, sv, .bool w.base]) ++ ([.int .i64 w.spent] ++ w.by_.map u8) := by simp [vcells, vtail]
  rw [e, splice_mid (mid := [.int .i64 w.spent]) (vs := [.int .i64 s]) (by rw [List.length_append, pcells_len h]; rfl) rfl]
  simp [vcells, vtail]
theorem vsplice_by {w : Ver} {sv : AVal} (h : w.hash.length = 32) (h2 : w.by_.length = 32) (b : List UInt8) (hb : b.length = 32) : splice (vcells w sv) 38 (b.map u8) = vcells { w with by_ := b } sv := by
  have e : vcells w sv = (pcells w.hash w.pn ++ [.int .i64 w.made, .int .i64 w.value, sv, .bool w.base, .int .i64 w.spent]) ++ (w.by_.map u8 ++ []) := by simp [vcells, vtail]
  rw [e, splice_mid (by rw [List.length_append, pcells_len h]; rfl) (by simp [h2, hb])]
  simp [vcells, vtail]
def endV (w : Ver) (s : Int) (b : List UInt8) : Ver := { w with spent := s, by_ := b }
theorem f36 (x : Nat) (hash : List UInt8) (pn made s : Int) (b : List UInt8) (hl : hash.length = 32) (hbl : b.length = 32) (L : List Ver) (D M : Nat → Prop) (h : Hp) (n : Nat) (hs : Ix h n D M x L) (hc : L.length ≤ 900000) (hf : Free h n) :
    Wp (callI env (evalW env) 36 [.ptr x 0, .agg (pcells hash pn), .int .i64 made, .int .i64 s, .agg (b.map u8)]) h n fun v' h' n' =>
      ((∀ w ∈ L, cmpV w (key hash pn made) = 0 → (w.spent ≠ 0 ∨ s < 1 ∨ s < made)) ∧ v' = .int .i64 210 ∧ Ix h' n' D M x L ∧ Chg h n D M h' n' D M) ∨
      (∃ w ∈ L, cmpV w (key hash pn made) = 0 ∧ w.spent = 0 ∧ 1 ≤ s ∧ made ≤ s ∧ v' = .int .i64 0 ∧ ∃ D' M', Ix h' n' D' M' x (putV (dropV L w) (endV w s b)) ∧ Chg h n D M h' n' D' M') := by
  have hs0 := hs
  obtain ⟨⟨S, s0, rS, perm⟩, rL, ok⟩ := hs
  have s00 := s0
  obtain ⟨vl, vs, xl, xs, iv, mx, ml, ms, mn⟩ := s00
  refine wp_callI ff36 fi36 ?_
  simp only [fu36, Try.f36, Option.getD_some, List.replicate, core1, execOp, opd, nth, ended, resultOf, oneOrTup, List.cons_append, List.nil_append, List.length_cons, List.length_nil, Nat.reduceAdd, Nat.reduceSub, Nat.zero_add, wp_pure]
  refine opv_box (v := .agg (pcells hash pn)) ti28 rfl hf fun H1 r1 o1 f1 => ?_
  simp only [core1, execOp, opd, putT, put, nth]
  refine opv_box (v := .agg (b.map u8)) ti25 rfl f1 fun H2 r2 o2 f2 => ?_
  have old2 : Old h H2 n := fun j hj => by rw [o2 j (by omega), o1 j (by omega)]
  have r1 := r1.keep (o2 n (by omega))
  simp only [core1, fgr, hkr, execOp, opd, opds, ofValue, putT, put, nth, forgetL, doCall, callV_func, List.nil_append, List.append_nil]
  refine opv_same (f73 x _ true H2 (n + 1 + 1) (iv.row.keep (old2 x iv.xn)) rfl) ?_
  simp only [core1, fgr, execOp, opd, putT, put, nth, forgetL, Bool.not_true]
  have hld : Rd (load env 28 (.ptr n 0)) H2 (n + 1 + 1) [n] (.agg (pcells hash pn)) := Row.whole r1 ti28 rfl (pcells_len hl)
  rw [opv_rd hld]
  simp only [core1, hkr, execOp, opd, opds, putT, put, nth, doCall, callV_func, List.nil_append, List.append_nil]
  have s2 := s0.old (n' := n + 1 + 1) (by omega) old2
  refine opv_callf f2 (f76 x hash pn made hl L S D M H2 _ s2 rL (by omega) f2) fun v3 h3 n3 hn3 f3 ⟨hh, o3⟩ => ?_
  have old3 : Old h h3 n := fun j hj => by rw [o3 j (by omega), old2 j hj]
  have ix3 : Ix h3 n3 D M x L := hs0.old (by omega) old3
  rcases hh with ⟨hno, e2⟩ | ⟨id, sw, w, hw, hkey, e2, a, d1, d2⟩
  · subst e2
    simp only [core1, tyr, fgr, execOp, opd, ofValue, putT, put, nth, forgetL, und, bor, binOther, strK, aggK, doPick, branch, equalTop, equal, nilFn, nilPtr, boolOf, List.getElem?_cons_succ, List.getElem?_cons_zero, Bool.and_true, Bool.or_true, true_and]
    exact .inl ⟨fun w hw he => absurd he (hno w hw), ix3, .of f3 (by omega) old3⟩
  subst e2
  have uq : ∀ u ∈ L, cmpV u (key hash pn made) = 0 → u = w := fun u hu he => rises_eq rL hu hw (by
    have := ordV.eqr (d := u) hkey
    show cmpV u w = 0
    omega)
  have okw := ok w hw
  by_cases c1 : w.spent = 0
  rotate_left
  · simp only [core1, tyr, fgr, execOp, opd, ofValue, putT, put, nth, forgetL, und, sizeOf, bor, binOther, strK, aggK, nilCheck, getO, moved, fieldAddr, equalTop, equal, nilFn, nilPtr, boolOf, List.getElem?_cons_succ, List.getElem?_cons_zero, Bool.and_true, Bool.or_true, Nat.zero_add]
    rw [opv_rd (row_spent a.row okw.1)]
    simp only [core1, fgr, execOp, opd, ofValue, putT, put, nth, forgetL, bor, binInt, shiftB, intOp, doPick, branch, List.getElem?_cons_succ, List.getElem?_cons_zero, int_bne, not_false_eq_true, decide_true, true_and, c1]
    exact .inl ⟨fun u hu he => by rw [uq u hu he]; exact .inl c1, ix3, .of f3 (by omega) old3⟩
  by_cases c2 : s < 1
  · simp only [core1, tyr, fgr, execOp, opd, ofValue, putT, put, nth, forgetL, und, sizeOf, bor, binOther, strK, aggK, nilCheck, getO, moved, fieldAddr, equalTop, equal, nilFn, nilPtr, boolOf, List.getElem?_cons_succ, List.getElem?_cons_zero, Bool.and_true, Bool.or_true, Nat.zero_add]
    rw [opv_rd (row_spent a.row okw.1)]
    simp only [core1, fgr, execOp, opd, ofValue, putT, put, nth, forgetL, bor, binInt, shiftB, intOp, doPick, branch, List.getElem?_cons_succ, List.getElem?_cons_zero, decide_true, true_and, bne_self_eq_false, c1, c2]
    exact .inl ⟨fun u hu he => by simp, ix3, .of f3 (by omega) old3⟩
  by_cases c3 : s < made
  · simp only [core1, tyr, fgr, execOp, opd, ofValue, putT, put, nth, forgetL, und, sizeOf, bor, binOther, strK, aggK, nilCheck, getO, moved, fieldAddr, equalTop, equal, nilFn, nilPtr, boolOf, List.getElem?_cons_succ, List.getElem?_cons_zero, Bool.and_true, Bool.or_true, Nat.zero_add]
    rw [opv_rd (row_spent a.row okw.1)]
    simp only [core1, fgr, execOp, opd, ofValue, putT, put, nth, forgetL, bor, binInt, shiftB, intOp, doPick, branch, List.getElem?_cons_succ, List.getElem?_cons_zero, decide_true, decide_false, true_and, bne_self_eq_false, c1, c2, c3]
    exact .inl ⟨fun u hu he => by simp, ix3, .of f3 (by omega) old3⟩
  simp only [core1, tyr, fgr, execOp, opd, ofValue, putT, put, nth, forgetL, und, sizeOf, bor, binOther, strK, aggK, nilCheck, getO, moved, fieldAddr, equalTop, equal, nilFn, nilPtr, boolOf, List.getElem?_cons_succ, List.getElem?_cons_zero, Bool.and_true, Bool.or_true, Nat.zero_add]
  rw [opv_rd (row_spent a.row okw.1)]
  simp only [core1, fgr, execOp, opd, ofValue, putT, put, nth, forgetL, bor, binInt, shiftB, intOp, doPick, branch, nilCheck, List.getElem?_cons_succ, List.getElem?_cons_zero, decide_true, decide_false, bne_self_eq_false, c1, c2, c3]
  rw [opv_rd (row_all a.row okw.1)]
  simp only [core1, execOp, putT, put]
  rw [opv_alloc ti31 rfl]
  simp only [core1, execOp, opd, putT, put, nth, cel]
  refine opv_hold (v := .agg (vcells w sw)) ti31 rfl (vcells_len okw.1.h okw.1.b) (vcells_cell a.s.kind.2.1) f3 fun H4 r4 o4 f4 => ?_
  have r2 : Row H4 (n + 1) (b.map u8) := (r2.keep (o3 (n + 1) (by omega))).keep (o4 (n + 1) (by omega))
  obtain ⟨e4, r4⟩ := r4
  simp only [core1, fgr, putT, forgetL]
  refine run_draw.2 ⟨rfl, ?_⟩
  simp only [fe_cons, fev_pure, execOp, opd, putT, put, nth, Nat.zero_add]
  have hld2 : Rd (load env 25 (.ptr (n + 1) 0)) H4 (n3 + 1) [n + 1] (.agg (b.map u8)) := Row.whole r2 ti25 rfl (by simp [hbl])
  rw [fev_rd hld2]
  simp only [fe_cons, fev_pure, core1, tyr, execOp, opd, putT, put, nth, und, sizeOf, getO, moved, fieldAddr, List.getElem?_cons_succ, List.getElem?_cons_zero, Nat.reduceAdd, Nat.zero_add]
  refine fev_wr (Row.write (v := .int .i64 s) r4 ti3 rfl (by show 37 + 1 ≤ (vcells w sw).length; rw [vcells_len okw.1.h okw.1.b]; decide) rfl) ?_
  simp only [fe_cons, fev_pure, core1, tyr, execOp, opd, putT, put, nth, und, sizeOf, cel, getO, moved, fieldAddr, List.getElem?_cons_succ, List.getElem?_cons_zero, Nat.reduceAdd, Nat.zero_add]
  have w1 : splice (vcells w sw) 37 [AVal.int .i64 s] = vcells { w with spent := s } sw := vsplice_spent okw.1.h s
  rw [w1]
  refine fev_wr (Row.write (v := .agg (b.map u8)) (upd_same _ _ _) ti25 (by simp [AVal.cells, hbl]) (by show 38 + 32 ≤ _; rw [vcells_len (v := { w with spent := s }) okw.1.h okw.1.b]; decide) (u8_one b)) ?_
  have w2 : splice (vcells { w with spent := s } sw) 38 (AVal.agg (b.map u8)).cells = vcells (endV w s b) sw := vsplice_by (w := { w with spent := s }) okw.1.h okw.1.b b hbl
  rw [w2]
  simp only [fe_nil, core1, fgr, execOp, opd, putT, put, nth, forgetL, Nat.reduceAdd]
  refine ⟨(by (try simp (disch := omega) only [fine, List.all_cons, List.all_nil, clash_pl, clash_pr, clash_rr, Bool.not_false, Bool.true_or, Bool.and_true, Bool.true_and, clash_rw]); repeat' (first | rfl | exact (Bool.or_eq_true _ _).mpr (.inr rfl) | refine (Bool.and_eq_true _ _).mpr ⟨?_, ?_⟩)), ?_⟩
  have f5 : Free (upd (upd H4 n3 (some (Blk.row (Cont.l (vcells { w with spent := s } sw)) e4))) n3 (some (Blk.row (Cont.l (vcells (endV w s b) sw)) e4))) (n3 + 1) := (f4.upd (by omega)).upd (by omega)
  obtain ⟨H5, hH5⟩ : ∃ H5, H5 = upd (upd H4 n3 (some (Blk.row (Cont.l (vcells { w with spent := s } sw)) e4))) n3 (some (Blk.row (Cont.l (vcells (endV w s b) sw)) e4)) := ⟨_, rfl⟩
  have o5 : ∀ j, j ≠ n3 → H5 j = h3 j := fun j hj => by rw [hH5, upd_ne _ _ hj, upd_ne _ _ hj, o4 j hj]
  have r5 : Row H5 n3 (vcells (endV w s b) sw) := by rw [hH5]; exact Row.new _ _ _ _
  rw [← hH5] at f5
  rw [← hH5]
  clear hH5
  have ov5 : (endV w s b).Ok := ⟨okw.1.h, hbl⟩
  rw [opv_rd (row_all r5 ov5)]
  simp only [core1, hkr, execOp, opd, opds, putT, put, nth, doCall, callV_func, List.nil_append, List.append_nil]
  have old5 : Old h H5 n := fun j hj => by rw [o5 j (by omega), old3 j hj]
  have ix5 : Ix H5 (n3 + 1) D M x L := hs0.old (by omega) old5
  have a5 : At H5 id sw w := a.keep (o5 id (by have := iv.dn id d1; omega)) (fun j q => o5 j (by have := iv.dn j (d2 j q); omega))
  refine opv_callf f5 (f80 x id sw w (endV w s b) L D M H5 (n3 + 1) ix5 hw a5 d1 d2 (ordV.refl w) rfl ov5 hc f5) fun v6 h6 n6 hn6 f6 ⟨e6, D', M', ix6, c6⟩ => ?_
  subst e6
  simp only [core1, fgr, execOp, opd, ofValue, putT, put, nth, forgetL, true_and]
  exact .inr ⟨w, hw, hkey, c1, by omega, by omega, D', M', ix6, (Chg.of f5 (by omega) old5).trans c6⟩
def z32 : List UInt8 := List.replicate 32 0
theorem b25 : build env 25 [] = M.pure (.agg (z32.map u8)) := rfl
theorem f38 (x : Nat) (hash : List UInt8) (pn made : Int) (hl : hash.length = 32) (L : List Ver) (D M : Nat → Prop) (h : Hp) (n : Nat) (hs : Ix h n D M x L) (hc : L.length ≤ 900000) (hf : Free h n) :
    Wp (callI env (evalW env) 38 [.ptr x 0, .agg (pcells hash pn), .int .i64 made]) h n fun v' h' n' =>
      ((∀ w ∈ L, cmpV w (key hash pn made) = 0 → w.spent = 0) ∧ v' = .int .i64 210 ∧ Ix h' n' D M x L ∧ Chg h n D M h' n' D M) ∨
      (∃ w ∈ L, cmpV w (key hash pn made) = 0 ∧ w.spent ≠ 0 ∧ v' = .int .i64 0 ∧ ∃ D' M', Ix h' n' D' M' x (putV (dropV L w) (endV w 0 z32)) ∧ Chg h n D M h' n' D' M') := by
  have hs0 := hs
  obtain ⟨⟨S, s0, rS, perm⟩, rL, ok⟩ := hs
  have s00 := s0
  obtain ⟨vl, vs, xl, xs, iv, mx, ml, ms, mn⟩ := s00
  refine wp_callI ff38 fi38 ?_
  simp only [fu38, Try.f38, Option.getD_some, List.replicate, core1, execOp, opd, nth, ended, resultOf, oneOrTup, List.cons_append, List.nil_append, List.length_cons, List.length_nil, Nat.reduceAdd, Nat.reduceSub, Nat.zero_add, wp_pure]
  refine opv_box (v := .agg (pcells hash pn)) ti28 rfl hf fun H2 r1 o1 f2 => ?_
  have old2 : Old h H2 n := fun j hj => by rw [o1 j (by omega)]
  simp only [core1, fgr, hkr, execOp, opd, opds, ofValue, putT, put, nth, forgetL, doCall, callV_func, List.nil_append, List.append_nil]
  refine opv_same (f73 x _ true H2 (n + 1) (iv.row.keep (old2 x iv.xn)) rfl) ?_
  simp only [core1, fgr, execOp, opd, putT, put, nth, forgetL, Bool.not_true]
  have hld : Rd (load env 28 (.ptr n 0)) H2 (n + 1) [n] (.agg (pcells hash pn)) := Row.whole r1 ti28 rfl (pcells_len hl)
  rw [opv_rd hld]
  simp only [core1, hkr, execOp, opd, opds, putT, put, nth, doCall, callV_func, List.nil_append, List.append_nil]
  have s2 := s0.old (n' := n + 1) (by omega) old2
  refine opv_callf f2 (f76 x hash pn made hl L S D M H2 _ s2 rL (by omega) f2) fun v3 h3 n3 hn3 f3 ⟨hh, o3⟩ => ?_
  have old3 : Old h h3 n := fun j hj => by rw [o3 j (by omega), old2 j hj]
  have ix3 : Ix h3 n3 D M x L := hs0.old (by omega) old3
  rcases hh with ⟨hno, e2⟩ | ⟨id, sw, w, hw, hkey, e2, a, d1, d2⟩
  · subst e2
    simp only [core1, tyr, fgr, execOp, opd, ofValue, putT, put, nth, forgetL, und, bor, binOther, strK, aggK, doPick, branch, equalTop, equal, nilFn, nilPtr, boolOf, List.getElem?_cons_succ, List.getElem?_cons_zero, Bool.and_true, Bool.or_true, true_and]
    exact .inl ⟨fun w hw he => absurd he (hno w hw), ix3, .of f3 (by omega) old3⟩
  subst e2
  have uq : ∀ u ∈ L, cmpV u (key hash pn made) = 0 → u = w := fun u hu he => rises_eq rL hu hw (by
    have := ordV.eqr (d := u) hkey
    show cmpV u w = 0
    omega)
  have okw := ok w hw
  by_cases c1 : w.spent = 0
  · simp only [core1, tyr, fgr, execOp, opd, ofValue, putT, put, nth, forgetL, und, sizeOf, bor, binOther, strK, aggK, nilCheck, getO, moved, fieldAddr, equalTop, equal, nilFn, nilPtr, boolOf, List.getElem?_cons_succ, List.getElem?_cons_zero, Bool.and_true, Bool.or_true, Nat.zero_add]
    rw [opv_rd (row_spent a.row okw.1)]
    simp only [core1, fgr, execOp, opd, ofValue, putT, put, nth, forgetL, bor, binInt, shiftB, intOp, doPick, branch, List.getElem?_cons_succ, List.getElem?_cons_zero, decide_true, true_and, beq_self_eq_true, c1]
    exact .inl ⟨fun u hu he => by rw [uq u hu he]; exact c1, ix3, .of f3 (by omega) old3⟩
  simp only [core1, tyr, fgr, execOp, opd, ofValue, putT, put, nth, forgetL, und, sizeOf, bor, binOther, strK, aggK, nilCheck, getO, moved, fieldAddr, equalTop, equal, nilFn, nilPtr, boolOf, List.getElem?_cons_succ, List.getElem?_cons_zero, Bool.and_true, Bool.or_true, Nat.zero_add]
  rw [opv_rd (row_spent a.row okw.1)]
  simp only [core1, fgr, execOp, opd, ofValue, putT, put, nth, forgetL, bor, binInt, shiftB, intOp, doPick, branch, nilCheck, List.getElem?_cons_succ, List.getElem?_cons_zero, int_beq, decide_true, decide_false, c1]
  rw [opv_rd (row_all a.row okw.1)]
  simp only [core1, execOp, putT, put]
  rw [opv_alloc ti31 rfl]
  simp only [core1, execOp, opd, putT, put, nth, cel]
  refine opv_hold (v := .agg (vcells w sw)) ti31 rfl (vcells_len okw.1.h okw.1.b) (vcells_cell a.s.kind.2.1) f3 fun H4 r4 o4 f4 => ?_
  obtain ⟨e4, r4⟩ := r4
  simp only [core1, tyr, fgr, execOp, opd, ofValue, ops2, putT, put, nth, forgetL, und, sizeOf, getO, moved, fieldAddr, List.getElem?_cons_succ, List.getElem?_cons_zero, Nat.zero_add, b25]
  rw [opv_wr (Row.write (v := .int .i64 0) r4 ti3 rfl (by show 37 + 1 ≤ (vcells w sw).length; rw [vcells_len okw.1.h okw.1.b]; decide) rfl)]
  simp only [core1, tyr, execOp, opd, putT, put, nth, und, sizeOf, cel, getO, moved, fieldAddr, List.getElem?_cons_succ, List.getElem?_cons_zero, Nat.zero_add]
  have w1 : splice (vcells w sw) 37 [AVal.int .i64 0] = vcells { w with spent := 0 } sw := vsplice_spent okw.1.h 0
  rw [w1]
  rw [opv_wr (Row.write (v := .agg (z32.map u8)) (upd_same _ _ _) ti25 rfl (by show 38 + 32 ≤ _; rw [vcells_len (v := { w with spent := 0 }) okw.1.h okw.1.b]; decide) (u8_one z32))]
  have w2 : splice (vcells { w with spent := 0 } sw) 38 (AVal.agg (z32.map u8)).cells = vcells (endV w 0 z32) sw := vsplice_by (w := { w with spent := 0 }) okw.1.h okw.1.b z32 rfl
  rw [w2]
  simp only [core1, fgr, execOp, opd, putT, put, nth, forgetL]
  have f5 : Free (upd (upd H4 n3 (some (Blk.row (Cont.l (vcells { w with spent := 0 } sw)) e4))) n3 (some (Blk.row (Cont.l (vcells (endV w 0 z32) sw)) e4))) (n3 + 1) := (f4.upd (by omega)).upd (by omega)
  obtain ⟨H5, hH5⟩ : ∃ H5, H5 = upd (upd H4 n3 (some (Blk.row (Cont.l (vcells { w with spent := 0 } sw)) e4))) n3 (some (Blk.row (Cont.l (vcells (endV w 0 z32) sw)) e4)) := ⟨_, rfl⟩
  have o5 : ∀ j, j ≠ n3 → H5 j = h3 j := fun j hj => by rw [hH5, upd_ne _ _ hj, upd_ne _ _ hj, o4 j hj]
  have r5 : Row H5 n3 (vcells (endV w 0 z32) sw) := by rw [hH5]; exact Row.new _ _ _ _
  rw [← hH5] at f5
  rw [← hH5]
  clear hH5
  have ov5 : (endV w 0 z32).Ok := ⟨okw.1.h, rfl⟩
  rw [opv_rd (row_all r5 ov5)]
  simp only [core1, hkr, execOp, opd, opds, putT, put, nth, doCall, callV_func, List.nil_append, List.append_nil]
  have old5 : Old h H5 n := fun j hj => by rw [o5 j (by omega), old3 j hj]
  have ix5 : Ix H5 (n3 + 1) D M x L := hs0.old (by omega) old5
  have a5 : At H5 id sw w := a.keep (o5 id (by have := iv.dn id d1; omega)) (fun j q => o5 j (by have := iv.dn j (d2 j q); omega))
  refine opv_callf f5 (f80 x id sw w (endV w 0 z32) L D M H5 (n3 + 1) ix5 hw a5 d1 d2 (ordV.refl w) rfl ov5 hc f5) fun v6 h6 n6 hn6 f6 ⟨e6, D', M', ix6, c6⟩ => ?_
  subst e6
  simp only [core1, fgr, execOp, opd, ofValue, putT, put, nth, forgetL, true_and]
  exact .inr ⟨w, hw, hkey, c1, D', M', ix6, (Chg.of f5 (by omega) old5).trans c6⟩
/-- Versions, one behind the other. -/
structure Vs (h : Hp) (D : Nat → Prop) (cells : List AVal) (vs : List Ver) : Prop where
  len : cells.length = vs.length * 70
  at_ : ∀ (j : Nat) (hj : j < vs.length), ∃ sv, (cells.drop (j * 70)).take 70 = vcells vs[j] sv ∧ Bytes h sv vs[j].script ∧ vs[j].Ok ∧ ∀ i, ownId sv = some i → D i
theorem Vs.nil (h : Hp) (D : Nat → Prop) : Vs h D [] [] := ⟨rfl, fun j hj => by simp at hj⟩
theorem Vs.mono {h h' : Hp} {D D' : Nat → Prop} {cells : List AVal} {vs : List Ver} (p : Vs h D cells vs) (hd : ∀ j, D j → D' j) (hk : ∀ j, D j → h' j = h j) : Vs h' D' cells vs :=
  ⟨p.len, fun j hj => by
    obtain ⟨sv, e, b, o, d⟩ := p.at_ j hj
    exact ⟨sv, e, b.keep (fun i hi => hk i (d i hi)), o, fun i hi => hd i (d i hi)⟩⟩
theorem Vs.snoc {h : Hp} {D : Nat → Prop} {cells : List AVal} {vs : List Ver} (p : Vs h D cells vs) {v : Ver} {sv : AVal} (hb : Bytes h sv v.script) (ho : v.Ok) (hd : ∀ i, ownId sv = some i → D i) : Vs h D (cells ++ vcells v sv) (vs ++ [v]) := by
  have hl := p.len
  have hv := vcells_len (sv := sv) ho.h ho.b
  refine ⟨by simp [hl, hv]; omega, fun j hj => ?_⟩
  by_cases c : j < vs.length
  · obtain ⟨s2, e, b, o, d⟩ := p.at_ j c
    refine ⟨s2, ?_, ?_, ?_, d⟩
    · rw [List.drop_append_of_le_length (by omega), List.take_append_of_le_length (by rw [List.length_drop]; omega), e, List.getElem_append_left c]
    · rw [List.getElem_append_left c]; exact b
    · rw [List.getElem_append_left c]; exact o
  · have e : j = vs.length := by simp at hj; omega
    subst e
    refine ⟨sv, ?_, ?_, ?_, hd⟩
    · rw [← hl, List.drop_left, List.take_of_length_le (by omega)]; simp
    · simpa using hb
    · simpa using ho
theorem u43 : und env 43 = M.pure (.slice 31) := rfl
theorem z31s : sizeOf env 31 = M.pure 70 := rfl
theorem bs43 {X : List AVal} (hX : X.length = 70) : buildSlice env 43 1 [(0, .agg X)] = (newRow env 31 X).bind fun id => M.pure (.sl id 0 1 (some 1) 70) := by
  have e1 : fill (fun k => some (k * 70, 70)) (reps ty31.i.zero.cells 1) [(0, .agg X)] = some X := by
    have : reps ty31.i.zero.cells 1 = [] ++ ty31.i.zero.cells ++ [] := rfl
    rw [this, fill_at (off := 0) (sz := 70) (pre := []) (mid := ty31.i.zero.cells) (post := []) (v := .agg X) (rest := []) rfl rfl rfl hX rfl]
    simp [fill, AVal.cells]
  have e2 : buildSlice env 43 1 [(0, .agg X)] = (getO "buildSlice" (fill (fun k => some (k * 70, 70)) (reps ty31.i.zero.cells 1) [(0, .agg X)])).bind fun cs => (newRow env 31 cs).bind fun id => M.pure (.sl id 0 1 (some 1) 70) := rfl
  rw [e2, e1]
  rfl
/-- What a function says of a version behind an address. -/
def IsF (F : AVal) (is : Ver → Bool) (h0 : Hp) (n0 : Nat) : Prop := ∀ (h : Hp) (n id : Nat) (sv : AVal) (v : Ver), n0 ≤ n → Old h0 h n0 → AtN h n id sv v → Free h n → Wp (callV env (evalW env) F [.ptr id 0]) h n fun v' h' n' => v' = .bool (is v) ∧ Old h h' n
theorem loop74 (Q : Post0) (ks : List Kf) (F : AVal) (is : Ver → Bool) (v : AVal) (cnt : Nat) (xs : List AVal) (vs : List Ver) (D : Nat → Prop) (h0 : Hp) (n0 : Nat) (hF : IsF F is h0 n0) (hc : cnt ≤ 1000000) (hv : Rds h0 1 v cnt xs) (hvn : ∀ j, ownId v = some j → j < n0) (hp : Ps h0 D xs vs) (hD : ∀ j, D j → j < n0) (hsl : ∀ v ∈ vs, v.script.length ≤ 1000000)
    (hT : ∀ (h : Hp) (n : Nat) (acc : AVal) (cells : List AVal) (x4 x7 x11 x16 : AVal), Lst h 31 70 acc (vs.filter is).length cells → Vs h (fun j => n0 ≤ j ∧ j < n ∧ ownId acc ≠ some j) cells (vs.filter is) → (∀ j, ownId acc = some j → n0 ≤ j) → n0 ≤ n → Free h n → Old h0 h n0 →
      Kont env 74 none Q ks (.exit 0) (v :: F :: AVal.junk :: AVal.junk :: x4 :: acc :: AVal.junk :: x7 :: v :: .int .i64 (cnt : Nat) :: .int .i64 (cnt : Nat) :: x11 :: AVal.junk :: AVal.junk :: AVal.junk :: AVal.junk :: x16 :: AVal.junk :: AVal.junk :: AVal.junk :: AVal.junk :: AVal.junk :: AVal.junk :: AVal.junk :: AVal.junk :: AVal.junk :: []) h n) :
    ∀ (m i : Nat) (h : Hp) (n : Nat) (acc : AVal) (cells : List AVal) (x4 x7 x11 x16 : AVal), i + m = cnt → Lst h 31 70 acc ((vs.take i).filter is).length cells → Vs h (fun j => n0 ≤ j ∧ j < n ∧ ownId acc ≠ some j) cells ((vs.take i).filter is) → (∀ j, ownId acc = some j → n0 ≤ j) → n0 ≤ n → Free h n → Old h0 h n0 →
      Run env 74 none Q (.loop lp74_0) ks (v :: F :: AVal.junk :: AVal.junk :: x4 :: acc :: AVal.junk :: x7 :: v :: .int .i64 (cnt : Nat) :: .int .i64 (i : Nat) :: x11 :: AVal.junk :: AVal.junk :: AVal.junk :: AVal.junk :: x16 :: AVal.junk :: AVal.junk :: AVal.junk :: AVal.junk :: AVal.junk :: AVal.junk :: AVal.junk :: AVal.junk :: AVal.junk :: []) h n := by
  have hcl : cnt = vs.length := by have := hv.length; have := hp.len; omega
  intro m
  induction m with
  | zero =>
    intro i h n acc cells x4 x7 x11 x16 hm ha hV hi hn hf ho
    have : i = cnt := by omega
    subst this
    rw [run_loop]
    have hcc : ¬ (((i : Nat) : Int) < ((i : Nat) : Int)) := by omega
    simp only [lp74_0, loopsOf, Try.f74, Option.getD_some, core1, fgr, execOp, opd, putT, put, nth, forgetL, bor, binInt, shiftB, intOp, List.nil_append, List.append_nil, decide_true, decide_false, List.getD_cons_zero, hcc]
    rw [hcl, List.take_length] at ha hV
    exact hT h n acc cells _ _ _ _ ha hV hi hn hf ho
  | succ m ih =>
    intro i h n acc cells x4 x7 x11 x16 hm ha hV hi hn hf ho
    rw [run_loop]
    have hil : i < cnt := by omega
    have hcc : (((i : Nat) : Int) < ((cnt : Nat) : Int)) := by omega
    have hv' := hv.keep (h' := h) (fun j hj => ho j (hvn j hj))
    have hp' := hp.mono (D' := D) (fun _ q => q) (fun j hj => ho j (hD j hj))
    obtain ⟨id, sv, hx, a, d1, d2⟩ := hp'.get (j := i) (by omega)
    have hidx := hv'.idx (E := env) u95 z128 (kk := .i64) (z := ((i : Nat) : Int)) (j := i) rfl hil (h' := h) (n' := n)
    have hld := hv'.load (E := env) ti128 rfl (k := i * 1) (n := n) (by rw [Nat.mul_one]; exact hx)
    have atn : AtN h n id sv (vs[i]'(by omega)) := ⟨a, by have := hD _ d1; omega, fun q hq => by have := hD _ (d2 q hq); omega⟩
    have w1 : IntKind.i64.wrap (((i : Nat) : Int) + 1) = ((i + 1 : Nat) : Int) := by rw [w64 (by omega) (by omega)]; omega
    have htk : vs.take (i + 1) = vs.take i ++ [vs[i]'(by omega)] := by rw [List.take_add_one, List.getElem?_eq_getElem (by omega)]; rfl
    simp only [lp74_0, loopsOf, Try.f74, Option.getD_some, core1, fgr, execOp, opd, putT, put, nth, forgetL, bor, binInt, shiftB, intOp, List.nil_append, List.append_nil, decide_true, List.getD_cons_zero, hcc]
    rw [opv_rd hidx]
    simp only [core1, execOp, opd, putT, put, nth]
    rw [opv_rd hld]
    simp only [core1, fgr, execOp, opd, opds, putT, put, nth, forgetL, doCall]
    refine opv_callf hf (hF h n id sv _ hn ho atn hf) fun v1 h1 n1 hn1 f1 ⟨e1, o1⟩ => ?_
    subst e1
    have ho1 : Old h0 h1 n0 := fun q hq => (o1 q (by omega)).trans (ho q hq)
    have ha1 := ha.keep (h' := h1) (fun j q => o1 j (ha.live hf q))
    have hV1 := hV.mono (h' := h1) (D' := fun j => n0 ≤ j ∧ j < n1 ∧ ownId acc ≠ some j) (fun j q => ⟨q.1, by omega, q.2.2⟩) (fun j q => o1 j q.2.1)
    have at1 := atn.old hn1 o1
    cases hq : is (vs[i]'(by omega)) with
    | false =>
      simp only [core1, fgr, execOp, opd, ofValue, putT, put, nth, forgetL, bor, binInt, shiftB, intOp, wrapI, decide_true, w1]
      exact ih (i + 1) h1 n1 acc cells _ _ _ _ (by omega) (by rw [htk, List.filter_append]; simpa [hq] using ha1) (by rw [htk, List.filter_append]; simpa [hq] using hV1) hi (by omega) f1 ho1
    | true =>
      simp only [core1, fgr, execOp, opd, putT, put, nth, forgetL, nilCheck]
      rw [opv_rd (row_all at1.row at1.ok)]
      simp only [core1, hkr, execOp, opd, opds, putT, put, nth, doCall, callV_func, List.nil_append, List.append_nil]
      refine opv_callf f1 (f77 _ sv at1.ok h1 n1 at1.s at1.sn (hsl _ (List.getElem_mem _)) f1) fun v2 h2 n2 hn2 f2 ⟨s', e2, b2, i2, o2⟩ => ?_
      subst e2
      simp only [core1, tyr, execOp, opd, opds, ops2, putT, put, nth, doCall, builtin, two2, newRow, bs43 (vcells_len at1.ok.h at1.ok.b)]
      obtain ⟨H3, hH3⟩ : ∃ H3, H3 = upd h2 n2 (some (Blk.row (Cont.l (vcells (vs[i]'(by omega)) s')) 31)) := ⟨_, rfl⟩
      have f3 : Free H3 (n2 + 1) := by rw [hH3]; exact f2.new
      have o3 : ∀ j, j ≠ n2 → H3 j = h2 j := fun j hj => by rw [hH3, upd_ne _ _ hj]
      have r3 : H3 n2 = some (Blk.row (Cont.l (vcells (vs[i]'(by omega)) s')) 31) := by rw [hH3, upd_same]
      rw [← hH3]
      clear hH3
      have o13 : Old h1 H3 n1 := fun j hj => by rw [o3 j (by omega), o2 j hj]
      have ha3 := ha1.keep (h' := H3) (fun j q => o13 j (ha1.live f1 q))
      have hlen : ((vs.take i).filter is).length ≤ 1000000 := by
        have h1 := List.length_filter_le is (vs.take i)
        have h2 : (vs.take i).length ≤ vs.length := by rw [List.length_take]; omega
        omega
      refine opv_lst_append (i := ty31.i) (e := 31) ha3 (row_rds (cnt := 1) r3 (by rw [vcells_len at1.ok.h at1.ok.b]; rfl)) u43 u43 ti31 (vcells_cell b2.kind.2.1) (by decide) (by show 2 * (_ + 1) * 128 ≤ _; omega) (by omega) f3 ?_
      intro acc' h4 n4 hn4 f4 l4 i4 o4
      simp only [core1, fgr, execOp, opd, ofValue, putT, put, nth, forgetL, bor, binInt, shiftB, intOp, wrapI, decide_true, w1]
      have i4' : ∀ j, ownId acc' = some j → n0 ≤ j := fun j q => by
        rcases i4 with w | ⟨w, _⟩
        · rw [w] at q; exact hi j q
        · rw [w] at q; injection q with q; omega
      have accl : ∀ j, ownId acc = some j → j < n1 := fun j q => ha1.live f1 q
      have keep4 : ∀ j, j < n2 + 1 → ownId acc ≠ some j → h4 j = H3 j := fun j hj hn => o4 j hj hn
      have hne : ∀ j, j < n2 + 1 → ownId acc ≠ some j → ownId acc' ≠ some j := fun j hj hn q => by
        rcases i4 with w | ⟨w, _⟩
        · rw [w] at q; exact hn q
        · rw [w] at q; injection q with q; omega
      have hV4 := hV1.mono (h' := h4) (D' := fun j => n0 ≤ j ∧ j < n4 ∧ ownId acc' ≠ some j) (fun j q => ⟨q.1, by omega, hne j (by omega) q.2.2⟩) (fun j q => by rw [keep4 j (by omega) q.2.2, o13 j q.2.1])
      have an2 : ∀ j, n1 ≤ j → ownId acc ≠ some j := fun j hj q => by have := accl j q; omega
      have hV5 := hV4.snoc (b2.keep (h' := h4) fun j q => by rw [keep4 j (by have := i2 j q; omega) (an2 j (i2 j q).1), o3 j (by have := i2 j q; omega)]) at1.ok (fun j q => ⟨by have := i2 j q; omega, by have := i2 j q; omega, hne j (by have := i2 j q; omega) (an2 j (i2 j q).1)⟩)
      have hfl : (vs.take (i + 1)).filter is = (vs.take i).filter is ++ [vs[i]'(by omega)] := by rw [htk, List.filter_append]; simp [hq]
      have ho4 : Old h0 h4 n0 := fun j hj => by rw [keep4 j (by omega) (fun q => by have := hi j q; omega), o13 j (by omega)]; exact ho1 j hj
      exact ih (i + 1) h4 n4 acc' _ _ _ _ _ (by omega) (by rw [hfl, List.length_append]; exact l4) (by rw [hfl]; exact hV5) i4' (by omega) f4 ho4
/-- Versions in memory of their own: a list. -/
def VL (h : Hp) (n0 n : Nat) (v : AVal) (vs : List Ver) : Prop := ∃ cells, Lst h 31 70 v vs.length cells ∧ Vs h (fun j => n0 ≤ j ∧ j < n ∧ ownId v ≠ some j) cells vs ∧ ∀ j, ownId v = some j → n0 ≤ j ∧ j < n
theorem f74 (F : AVal) (is : Ver → Bool) (v : AVal) (cnt : Nat) (xs : List AVal) (vs : List Ver) (D : Nat → Prop) (h : Hp) (n : Nat) (hF : IsF F is h n) (hc : cnt ≤ 1000000) (hv : Rds h 1 v cnt xs) (hvn : ∀ j, ownId v = some j → j < n) (hp : Ps h D xs vs) (hD : ∀ j, D j → j < n) (hsl : ∀ v ∈ vs, v.script.length ≤ 1000000) (hf : Free h n) :
    Wp (callI env (evalW env) 74 [v, F]) h n fun v' h' n' => VL h' n n' v' (vs.filter is) ∧ Old h h' n := by
  refine wp_callI ff74 fi74 ?_
  simp only [fu74, Try.f74, Option.getD_some, List.replicate, core1, fgr, execOp, opd, opds, ofValue, putT, put, nth, forgetL, doCall, builtin, one1, ended, resultOf, oneOrTup, List.cons_append, List.nil_append, List.length_cons, List.length_nil, Nat.reduceAdd, Nat.reduceSub, Nat.zero_add, wp_pure, hv.bLen u95]
  refine loop74 _ _ F is v cnt xs vs D h n hF hc hv hvn hp hD hsl ?_ cnt 0 h n .nils [] _ _ _ _ (by omega) (by rw [List.take_zero]; exact .nil) (by rw [List.take_zero]; exact Vs.nil _ _) (fun j q => by cases q) (Nat.le_refl _) hf (Old.refl _ _)
  intro h1 n1 acc cells x4 x7 x11 x16 hl hV hi hn hf1 ho
  simp only [core1, fgr, execOp, opd, putT, put, nth, forgetL, true_and]
  exact ⟨⟨cells, hl, hV, fun j q => ⟨hi j q, hl.live hf1 q⟩⟩, ho⟩
/- An index is asked: Every, All, Len. -/
theorem f83 (id t : Nat) (sv : AVal) (v : Ver) (z : Int) (h : Hp) (n : Nat) (ha : AtN h n id sv v) (ht : Row h t [.int .i64 z]) (hf : Free h n) :
    Wp (callI env (evalW env) 83 [.ptr id 0, .ptr t 0]) h n fun v' h' n' => v' = .bool (there v z) ∧ Old h h' n := by
  refine wp_callI ff83 fi83 ?_
  simp only [fu83, Try.f83, Option.getD_some, List.replicate, core1, fgr, execOp, opd, ofValue, putT, put, forgetL, ended, resultOf, oneOrTup, List.cons_append, List.nil_append, List.length_cons, List.length_nil, Nat.reduceAdd, Nat.reduceSub, Nat.zero_add, wp_pure]
  refine run_draw.2 ⟨rfl, ?_⟩
  simp only [fe_cons, fev_pure, execOp, opd, putT, put, nth, nilCheck, Nat.reduceAdd, Nat.zero_add]
  rw [fev_rd (row_all ha.row ha.ok)]
  simp only [fe_cons, execOp, opd, putT, put, nth, Nat.reduceAdd]
  rw [fev_rd (ht.one (off := 0) rfl ti3 rfl)]
  simp only [fe_cons, hkr, execOp, opd, opds, putT, put, nth, doCall, callV_func, List.nil_append, List.append_nil, Nat.reduceAdd]
  refine fev_any hf (f82 v sv ha.ok z h n hf) fun v5 h5 n5 r5 w5 hn5 f5 ⟨e1, o1⟩ => ?_
  subst e1
  simp only [fe_nil, fe_cons, fev_pure, core1, fgr, execOp, opd, putT, put, nth, forgetL, Nat.reduceAdd, true_and]
  refine ⟨(by (try simp (disch := first | assumption | omega) only [fine, List.all_cons, List.all_nil, clash_pl, clash_pr, clash_rr, Bool.not_false, Bool.true_or, Bool.and_true, Bool.true_and]); repeat' (first | rfl | exact (Bool.or_eq_true _ _).mpr (.inr rfl) | refine (Bool.and_eq_true _ _).mpr ⟨?_, ?_⟩)), ?_⟩
  exact o1
theorem isF_every (h0 : Hp) (n0 : Nat) : IsF (.fn (.func 75) [] []) (fun _ => true) h0 n0 := by
  intro h n id sv v hn ho ha hf
  simp only [hkr, callV_func, List.nil_append, List.append_nil]
  exact wp_mono (f75 h n _) fun v' h' n' ⟨e1, e2, e3⟩ => ⟨e1, by subst e2; exact Old.refl _ _⟩
theorem isF_all (t : Nat) (z : Int) (h0 : Hp) (n0 : Nat) (ht : Row h0 t [.int .i64 z]) (htn : t < n0) : IsF (.fn (.func 83) [] [.ptr t 0]) (fun v => there v z) h0 n0 := by
  intro h n id sv v hn ho ha hf
  simp only [hkr, callV_func, List.cons_append, List.nil_append]
  exact f83 id t sv v z h n ha (ht.keep (ho t htn)) hf
theorem f32 (x : Nat) (L : List Ver) (D M : Nat → Prop) (h : Hp) (n : Nat) (hs : Ix h n D M x L) (hc : L.length ≤ 1000000) (hf : Free h n) :
    Wp (callI env (evalW env) 32 [.ptr x 0]) h n fun v' h' n' => VL h' n n' v' L ∧ Old h h' n := by
  obtain ⟨⟨S, s0, rS, perm⟩, rL, ok⟩ := hs
  obtain ⟨vl, vs, xl, xs, iv, mx, ml, ms, mn⟩ := s0
  refine wp_callI ff32 fi32 ?_
  simp only [fu32, Try.f32, Option.getD_some, List.replicate, core1, fgr, hkr, execOp, opd, opds, ofValue, putT, put, nth, forgetL, doCall, callV_func, ended, resultOf, oneOrTup, List.cons_append, List.nil_append, List.append_nil, List.length_cons, List.length_nil, Nat.reduceSub, Nat.zero_add, wp_pure]
  refine opv_same (f73 x _ true h n iv.row rfl) ?_
  simp only [core1, tyr, fgr, execOp, opd, putT, put, nth, forgetL, und, sizeOf, nilCheck, getO, moved, fieldAddr, List.getElem?_cons_succ, List.getElem?_cons_zero, Bool.not_true, Nat.zero_add, Nat.add_zero]
  rw [opv_rd (iv.row.one (off := 1) rfl ti95 rfl)]
  simp only [core1, hkr, execOp, opd, opds, putT, put, nth, doCall, callV_func, List.nil_append, List.append_nil]
  refine opv_callf hf (f74 _ _ vl L.length xl L D h n (isF_every h n) hc iv.l.rds (fun j q => (mn j (ml j q)).1) iv.lp iv.dn (fun v hv => (ok v hv).2) hf) fun v1 h1 n1 hn1 f1 ⟨l1, o1⟩ => ?_
  simp only [core1, fgr, execOp, opd, putT, put, nth, forgetL, true_and]
  rw [show L.filter (fun _ => true) = L from List.filter_eq_self.2 fun _ _ => rfl] at l1
  exact ⟨l1, o1⟩
theorem f39 (x : Nat) (z : Int) (L : List Ver) (D M : Nat → Prop) (h : Hp) (n : Nat) (hs : Ix h n D M x L) (hc : L.length ≤ 1000000) (hf : Free h n) :
    Wp (callI env (evalW env) 39 [.ptr x 0, .int .i64 z]) h n fun v' h' n' => VL h' n n' v' (L.filter fun v => there v z) ∧ Old h h' n := by
  obtain ⟨⟨S, s0, rS, perm⟩, rL, ok⟩ := hs
  obtain ⟨vl, vs, xl, xs, iv, mx, ml, ms, mn⟩ := s0
  refine wp_callI ff39 fi39 ?_
  simp only [fu39, Try.f39, Option.getD_some, List.replicate, core1, execOp, opd, nth, ended, resultOf, oneOrTup, List.cons_append, List.nil_append, List.length_cons, List.length_nil, Nat.reduceAdd, Nat.reduceSub, Nat.zero_add, wp_pure]
  refine opv_box (v := .int .i64 z) ti3 rfl hf fun H1 r1 o1 f1 => ?_
  have old1 : Old h H1 n := fun j hj => o1 j (by omega)
  simp only [core1, fgr, hkr, execOp, opd, opds, ofValue, putT, put, nth, forgetL, doCall, callV_func, List.nil_append, List.append_nil]
  have row1 := iv.row.keep (old1 x iv.xn)
  refine opv_same (f73 x _ true H1 (n + 1) row1 rfl) ?_
  simp only [core1, tyr, fgr, execOp, opd, putT, put, nth, forgetL, und, sizeOf, nilCheck, getO, moved, fieldAddr, List.getElem?_cons_succ, List.getElem?_cons_zero, Bool.not_true, Nat.zero_add, Nat.add_zero]
  rw [opv_rd (row1.one (off := 1) rfl ti95 rfl)]
  simp only [core1, hkr, execOp, opd, opds, putT, put, nth, doCall, callV_func, List.nil_append, List.append_nil]
  refine opv_callf f1 (f74 _ _ vl L.length xl L D H1 (n + 1) (isF_all n z H1 (n + 1) r1 (by omega)) hc (iv.l.keep (fun j q => old1 j (mn j (ml j q)).1)).rds (fun j q => by have := (mn j (ml j q)).1; omega) (iv.lp.mono (fun j q => q) (fun j q => old1 j (iv.dn j q))) (fun j q => by have := iv.dn j q; omega) (fun v hv => (ok v hv).2) f1) fun v2 h2 n2 hn2 f2 ⟨l2, o2⟩ => ?_
  simp only [core1, fgr, execOp, opd, putT, put, nth, forgetL, true_and]
  obtain ⟨cells, a1, a2, a3⟩ := l2
  exact ⟨⟨cells, a1, a2.mono (fun j q => ⟨by have := q.1; omega, q.2⟩) (fun j q => rfl), fun j q => by have := a3 j q; omega⟩, fun j hj => by rw [o2 j (by omega), old1 j hj]⟩
theorem f50 (x : Nat) (L : List Ver) (D M : Nat → Prop) (h : Hp) (n : Nat) (hs : Ix h n D M x L) : Wp (callI env (evalW env) 50 [.ptr x 0]) h n fun v' h' n' => v' = .int .i64 (L.length : Nat) ∧ h' = h ∧ n' = n := by
  obtain ⟨⟨S, s0, rS, perm⟩, rL, ok⟩ := hs
  obtain ⟨vl, vs, xl, xs, iv, mx, ml, ms, mn⟩ := s0
  refine wp_callI ff50 fi50 ?_
  simp only [fu50, Try.f50, Option.getD_some, List.replicate, core1, fgr, hkr, execOp, opd, opds, ofValue, putT, put, nth, forgetL, doCall, callV_func, ended, resultOf, oneOrTup, List.cons_append, List.nil_append, List.append_nil, List.length_cons, List.length_nil, Nat.reduceSub, Nat.zero_add, wp_pure]
  refine opv_same (f73 x _ true h n iv.row rfl) ?_
  simp only [core1, tyr, fgr, execOp, opd, putT, put, nth, forgetL, und, sizeOf, nilCheck, getO, moved, fieldAddr, List.getElem?_cons_succ, List.getElem?_cons_zero, Bool.not_true, Nat.zero_add, Nat.add_zero]
  rw [opv_rd (iv.row.one (off := 1) rfl ti95 rfl)]
  simp only [core1, fgr, execOp, opd, opds, putT, put, nth, forgetL, doCall, builtin, one1, and_self, iv.l.rds.bLen u95]
/-- What a yield answers: go on, or stop. -/
def yes (b : Bool) (v : AVal) : Prop := v = .blit b ∨ v = .bool b
theorem loop109 (Q : Post0) (ks : List Kf) (Y : AVal) (v : AVal) (cnt p : Nat) (xs : List AVal) (vs : List Ver) (D : Nat → Prop) (P : Nat → Hp → Nat → Prop) (R : Hp → Nat → Prop) (y1 y2 : AVal) (hc : cnt ≤ 1000000) (hpc : p ≤ cnt)
    (hP : ∀ k h n, P k h n → Rds h 1 v cnt xs ∧ Ps h D xs vs ∧ Free h n)
    (hY : ∀ (k : Nat) (hk : k < vs.length) (id : Nat) (sv : AVal) (h : Hp) (n : Nat), p ≤ k → P k h n → xs[k]? = some (.ptr id 0) → At h id sv vs[k] → D id → (∀ j, ownId sv = some j → D j) → Wp (callV env (evalW env) Y [.ptr id 0]) h n fun v' h' n' => (yes true v' ∧ P (k + 1) h' n') ∨ (yes false v' ∧ R h' n'))
    (hE : ∀ (h : Hp) (n : Nat) (tm : List AVal), P cnt h n → Kont env 109 none Q ks (.exit 0) tm h n)
    (hR : ∀ (h : Hp) (n : Nat) (tm : List AVal), R h n → Kont env 109 none Q ks .ret tm h n) :
    ∀ (m i : Nat) (h : Hp) (n : Nat) (x4 x7 x22 x28 : AVal), p + i + m = cnt → P (p + i) h n → Run env 109 none Q (.loop lp109_0) ks (Y :: y1 :: y2 :: AVal.junk :: x4 :: AVal.junk :: AVal.junk :: x7 :: AVal.junk :: AVal.junk :: AVal.junk :: AVal.junk :: AVal.junk :: AVal.junk :: AVal.junk :: AVal.junk :: AVal.junk :: AVal.junk :: AVal.junk :: subOf p cnt v :: .int .i64 (cnt - p : Nat) :: .int .i64 (i : Nat) :: x22 :: AVal.junk :: AVal.junk :: AVal.junk :: AVal.junk :: AVal.junk :: x28 :: AVal.junk :: []) h n := by
  intro m
  induction m with
  | zero =>
    intro i h n x4 x7 x22 x28 hm hp
    rw [run_loop]
    have hcc : ¬ (((i : Nat) : Int) < ((cnt - p : Nat) : Int)) := by omega
    simp only [lp109_0, loopsOf, Try.f109, Option.getD_some, core1, fgr, execOp, opd, putT, put, nth, forgetL, bor, binInt, shiftB, intOp, List.nil_append, List.append_nil, decide_true, decide_false, List.getD_cons_zero, hcc]
    exact hE h n _ (by rw [show cnt = p + i by omega]; exact hp)
  | succ m ih =>
    intro i h n x4 x7 x22 x28 hm hp
    rw [run_loop]
    obtain ⟨hv, hps, hf⟩ := hP _ _ _ hp
    have hcl : cnt = vs.length := by have := hv.length; have := hps.len; omega
    have hil : i < cnt - p := by omega
    have hcc : (((i : Nat) : Int) < ((cnt - p : Nat) : Int)) := by omega
    have hsub := hv.sub (lo := p) (hi := cnt) hpc (Nat.le_refl _)
    obtain ⟨id, sv, hx, a, d1, d2⟩ := hps.get (j := p + i) (by omega)
    have hidx := hsub.idx (E := env) u95 z128 (kk := .i64) (z := ((i : Nat) : Int)) (j := i) rfl hil (h' := h) (n' := n)
    have hld := hsub.load (E := env) ti128 rfl (k := i * 1) (n := n) (x := .ptr id 0) (by
      rw [Nat.mul_one, Nat.mul_one, Nat.mul_one, List.getElem?_take, if_pos hil, List.getElem?_drop]; exact hx)
    have w1 : IntKind.i64.wrap (((i : Nat) : Int) + 1) = ((i + 1 : Nat) : Int) := by rw [w64 (by omega) (by omega)]; omega
    simp only [lp109_0, loopsOf, Try.f109, Option.getD_some, core1, fgr, execOp, opd, putT, put, nth, forgetL, bor, binInt, shiftB, intOp, List.nil_append, List.append_nil, decide_true, List.getD_cons_zero, hcc]
    rw [opv_rd hidx]
    simp only [core1, execOp, opd, putT, put, nth]
    rw [opv_rd hld]
    simp only [core1, fgr, execOp, opd, opds, putT, put, nth, forgetL, doCall]
    refine opv_callf hf (hY (p + i) (by omega) id sv h n (by omega) hp hx a d1 d2) fun v1 h1 n1 hn1 f1 hh => ?_
    rcases hh with ⟨e1 | e1, hp1⟩ | ⟨e1 | e1, hr1⟩
    · subst e1
      simp only [core1, fgr, execOp, opd, ofValue, putT, put, nth, forgetL, bor, binInt, shiftB, intOp, wrapI, unOp, decide_true, Bool.not_true, w1]
      exact ih (i + 1) h1 n1 _ _ _ _ (by omega) hp1
    · subst e1
      simp only [core1, fgr, execOp, opd, ofValue, putT, put, nth, forgetL, bor, binInt, shiftB, intOp, wrapI, unOp, decide_true, Bool.not_true, w1]
      exact ih (i + 1) h1 n1 _ _ _ _ (by omega) hp1
    · subst e1
      simp only [core1, fgr, execOp, opd, putT, put, nth, forgetL, unOp, Bool.not_false]
      exact hR h1 n1 _ hr1
    · subst e1
      simp only [core1, fgr, execOp, opd, putT, put, nth, forgetL, unOp, Bool.not_false]
      exact hR h1 n1 _ hr1
theorem f109 (o : Bool) (Y : AVal) (b1 b2 x off : Nat) (cs : List AVal) (v : AVal) (t : Nat) (st : AVal) (tv : Ver) (cnt : Nat) (xs : List AVal) (vs : List Ver) (D : Nat → Prop) (P : Nat → Hp → Nat → Prop) (R : Hp → Nat → Prop) (h : Hp) (n : Nat)
    (hb1 : Row h b1 [.ptr x off]) (hb2 : Row h b2 [.ptr t 0]) (hr : Row h x cs) (hc0 : cs[off]? = some v) (hc1 : cs[off + 1]? = some (fo o)) (hc : cnt ≤ 1000000) (hv : Rds h 1 v cnt xs) (hro : Roomy v) (hvn : ∀ j, ownId v = some j → j < n) (hp : Ps h D xs vs) (hD : ∀ j, D j → j < n) (ht : AtN h n t st tv) (hmono : Mono o vs tv) (hf : Free h n)
    (hn1 : b1 < n) (hxn : x < n)
    (hP : ∀ k h n, P k h n → Rds h 1 v cnt xs ∧ Ps h D xs vs ∧ Free h n)
    (hS : ∀ p h' n', Pos o vs tv p → n ≤ n' → Free h' n' → Old h h' n → P p h' n')
    (hY : ∀ (p k : Nat) (hk : k < vs.length) (id : Nat) (sv : AVal) (h : Hp) (n : Nat), Pos o vs tv p → p ≤ k → P k h n → xs[k]? = some (.ptr id 0) → At h id sv vs[k] → D id → (∀ j, ownId sv = some j → D j) → Wp (callV env (evalW env) Y [.ptr id 0]) h n fun v' h' n' => (yes true v' ∧ P (k + 1) h' n') ∨ (yes false v' ∧ R h' n')) :
    Wp (callI env (evalW env) 109 [Y, .ptr b1 0, .ptr b2 0]) h n fun v' h' n' => v' = .tup [] ∧ (P cnt h' n' ∨ R h' n') := by
  have hcl : cnt = vs.length := by have := hv.length; have := hp.len; omega
  refine wp_callI ff109 fi109 ?_
  simp only [fu109, Try.f109, Option.getD_some, List.replicate, core1, execOp, opd, nth, ended, resultOf, oneOrTup, List.cons_append, List.nil_append, List.length_cons, List.length_nil, Nat.reduceAdd, Nat.reduceSub, true_and, Nat.zero_add, wp_pure]
  rw [opv_rd (hb1.one (off := 0) rfl ti156 rfl)]
  simp only [core1, execOp, opd, putT, put, nth]
  rw [opv_rd (hb2.one (off := 0) rfl ti128 rfl)]
  simp only [core1, hkr, execOp, opd, opds, putT, put, nth, doCall, callV_func, List.nil_append, List.append_nil]
  refine opv_callf hf (f103 o x off cs v t st tv cnt xs vs D h n hr hc0 hc1 (by omega) hv hvn hp hD ht hmono hf) fun v1 h1 n1 hn1' f1 ⟨p, hpos, e1, o1⟩ => ?_
  subst e1
  have hpc : p ≤ cnt := by have := hpos.le; omega
  have hv1 := hv.keep (h' := h1) (fun j q => o1 j (hvn j q))
  simp only [core1, fgr, execOp, opd, putT, put, nth, forgetL, extract, getO, List.getElem?_cons_succ, List.getElem?_cons_zero]
  rw [opv_rd ((hb1.keep (o1 b1 hn1)).one (off := 0) rfl ti156 rfl)]
  simp only [core1, tyr, execOp, opd, putT, put, nth, und, sizeOf, nilCheck, getO, moved, fieldAddr, List.getElem?_cons_zero, Nat.add_zero]
  rw [opv_rd ((hr.keep (o1 x hxn)).one hc0 ti95 rfl)]
  simp only [core1, execOp, opd, opt, putT, put, nth]
  rw [opv_rd (hv1.tail_rd u95 z128 rfl hpc)]
  have hsub := hv1.sub (lo := p) (hi := cnt) hpc (Nat.le_refl _)
  simp only [core1, fgr, execOp, opd, opds, ofValue, putT, put, nth, forgetL, doCall, builtin, one1, hsub.bLen u95]
  refine loop109 _ _ Y v cnt p xs vs D P R _ _ hc hpc hP (fun k hk id sv h n => hY p k hk id sv h n hpos) ?_ ?_ (cnt - p) 0 h1 n1 _ _ _ _ (by omega) (hS p h1 n1 hpos (by omega) f1 o1)
  · intro h2 n2 tm hp2
    simp only [core1, true_and]
    exact .inl hp2
  · intro h2 n2 tm hr2
    simp only [core1, true_and]
    exact .inr hr2
theorem f88 (x off t : Nat) (h : Hp) (n : Nat) : Wp (callI env (evalW env) 88 [.ptr x off, .ptr t 0]) h n fun v' h' n' => v' = .fn (.func 109) [] [.ptr n 0, .ptr (n + 1) 0] ∧ h' = upd (upd h n (some (.row (.l [.ptr x off]) 156))) (n + 1) (some (.row (.l [.ptr t 0]) 128)) ∧ n' = n + 1 + 1 := by
  refine wp_callI ff88 fi88 ?_
  simp only [fu88, Try.f88, Option.getD_some, List.replicate, core1, tyr, fgr, execOp, opd, opds, ofValue, putT, put, nth, forgetL, cel, alloc, newRow, ended, resultOf, oneOrTup, List.cons_append, List.nil_append, List.length_cons, List.length_nil, Nat.reduceAdd, Nat.reduceSub, and_self, Nat.zero_add, wp_pure]
theorem f81 (x : Nat) (hash : List UInt8) (pn : Int) (h : Hp) (n : Nat) : Wp (callI env (evalW env) 81 [.ptr x 0, .agg (pcells hash pn)]) h n fun v' h' n' => v' = .fn (.func 106) [] [.ptr n 0, .ptr (n + 1) 0] ∧ h' = upd (upd h n (some (.row (.l [.ptr x 0]) 56))) (n + 1) (some (.row (.l (pcells hash pn)) 28)) ∧ n' = n + 1 + 1 := by
  refine wp_callI ff81 fi81 ?_
  simp only [fu81, Try.f81, Option.getD_some, List.replicate, core1, tyr, fgr, execOp, opd, opds, ofValue, putT, put, nth, forgetL, cel, alloc, newRow, ended, resultOf, oneOrTup, List.cons_append, List.nil_append, List.length_cons, List.length_nil, Nat.reduceAdd, Nat.reduceSub, and_self, Nat.zero_add, wp_pure]
/- Hashes and outpoints, held against one another part by part. -/
theorem allM_pure {α : Type} {f : α → M Bool} {g : α → Bool} : ∀ (l : List α), (∀ x ∈ l, f x = M.pure (g x)) → allM f l = M.pure (l.all g)
  | [], _ => rfl
  | x :: l, h => by
    simp only [allM, h x (List.mem_cons_self), bind_pure, allM_pure l fun y hy => h y (List.mem_cons_of_mem _ hy), List.all_cons]
theorem part5 {a : List UInt8} {i : Nat} (hi : i < a.length) : part env 5 (a.map u8) i = M.pure (u8 a[i]) := by
  simp only [part, ti5, bind_pure, aggB, List.getElem?_map, List.getElem?_eq_getElem hi, Option.map_some, getO]
theorem eq5 (d : Nat) (x y : UInt8) : equal env (d + 1) 5 (u8 x) (u8 y) = M.pure (x == y) := by
  have : ((x.toNat : Int) == (y.toNat : Int)) = (x == y) := by
    by_cases e : x = y
    · subst e; simp
    · have h2 : ¬ ((x.toNat : Int) = (y.toNat : Int)) := fun q => e (UInt8.toNat_inj.1 (by omega))
      rw [beq_eq_false_iff_ne.2 h2, beq_eq_false_iff_ne.2 e]
  simp only [equal, u8, und, ti5, bind_pure, decide_true]
  rw [this]
theorem eq25 (d : Nat) (a b : List UInt8) (ha : a.length = 32) (hb : b.length = 32) : equal env (d + 1 + 1) 25 (.agg (a.map u8)) (.agg (b.map u8)) = M.pure (decide (a = b)) := by
  have hq : eqAt env env.eqs 25 = true := rfl
  have h1 : equal env (d + 1 + 1) 25 (.agg (a.map u8)) (.agg (b.map u8)) = allM (fun i => (part env 5 (a.map u8) (i * 1)).bind fun x => (part env 5 (b.map u8) (i * 1)).bind fun y => equal env (d + 1) 5 x y) (List.range 32) := by
    rw [equal]
    · simp only [und, ti25, bind_pure, hq, aggK, sizeOf, ti5]
    all_goals (intro k n h; cases h)
  rw [h1, allM_pure (g := fun i => (a.getD i 0 == b.getD i 0)) _ fun i hi => ?_]
  · congr 1
    rw [Bool.eq_iff_iff, List.all_eq_true, decide_eq_true_iff]
    constructor
    · intro h
      apply List.ext_getElem (by omega)
      intro i h1 h2
      have := h i (List.mem_range.2 (by omega))
      rw [List.getD_eq_getElem?_getD, List.getD_eq_getElem?_getD, List.getElem?_eq_getElem h1, List.getElem?_eq_getElem h2] at this
      simpa using this
    · rintro rfl i _
      simp
  · have hi := List.mem_range.1 hi
    rw [Nat.mul_one, part5 (by omega), bind_pure, part5 (by omega), bind_pure, eq5]
    rw [List.getD_eq_getElem?_getD, List.getD_eq_getElem?_getD, List.getElem?_eq_getElem (by omega), List.getElem?_eq_getElem (by omega)]
    rfl
theorem eq28 (d : Nat) (h1 h2 : List UInt8) (n1 n2 : Int) (l1 : h1.length = 32) (l2 : h2.length = 32) : equal env (d + 1 + 1 + 1) 28 (.agg (pcells h1 n1)) (.agg (pcells h2 n2)) = M.pure (decide (h1 = h2) && (n1 == n2)) := by
  have hq : eqAt env env.eqs 28 = true := rfl
  have p0 : ∀ (hh : List UInt8) (nn : Int), hh.length = 32 → part env 25 (pcells hh nn) 0 = M.pure (.agg (hh.map u8)) := fun hh nn hl => by
    simp only [part, ti25, bind_pure, aggB, List.drop_zero]
    rw [show (pcells hh nn).take 32 = hh.map u8 by unfold pcells; rw [List.take_append_of_le_length (by simp [hl]), List.take_of_length_le (by simp [hl])]]
  have p1 : ∀ (hh : List UInt8) (nn : Int), hh.length = 32 → part env 26 (pcells hh nn) 32 = M.pure (.int .u32 nn) := fun hh nn hl => by
    simp only [part, ti26, bind_pure, aggB, pcells_n hl, getO]
  have p2 : equal env (d + 1 + 1) 26 (.int .u32 n1) (.int .u32 n2) = M.pure (n1 == n2) := by
    simp only [equal, und, ti26, bind_pure, decide_true]
  rw [equal]
  · simp only [und, ti28, bind_pure, hq, aggK]
    simp only [allM, show decide ("Tx" = "_") = false from rfl, show decide ("N" = "_") = false from rfl, p0 h1 n1 l1, p0 h2 n2 l2, p1 h1 n1 l1, p1 h2 n2 l2, bind_pure, eq25 d h1 h2 l1 l2, p2, Bool.and_true]
  all_goals (intro k n h; cases h)
theorem neq28 (h1 h2 : List UInt8) (n1 n2 : Int) (l1 : h1.length = 32) (l2 : h2.length = 32) : binOp env .neq 28 (.agg (pcells h1 n1)) (.agg (pcells h2 n2)) = M.pure (.bool (!(decide (h1 = h2) && (n1 == n2)))) := by
  have e := eq28 97 h1 h2 n1 n2 l1 l2
  show binOther env .neq 28 (.agg (pcells h1 n1)) (.agg (pcells h2 n2)) = _
  unfold binOther
  simp only
  unfold equalTop
  rw [e, bind_pure]
/- An outpoint's versions, told one after the other. -/
noncomputable def L106 (tm : List AVal) : ALoop := { state := .ready, pending := none, fn := 106, tmps := tm, params := [14], assign := ra106_0, body := rb106_0 }
def same (hash : List UInt8) (pn : Int) (v : Ver) : Bool := decide (v.hash = hash) && (v.pn == pn)
/-- What the rounds come to: all were told, or one of another outpoint came, or they were stopped. -/
def Told (hash : List UInt8) (pn : Int) (L : List Ver) (P : Nat → Nat → Hp → Nat → Prop) (R : Nat → Hp → Nat → Prop) (n0 : Nat) (h : Hp) (n : Nat) : Prop :=
  ∃ nS, n0 ≤ nS ∧ ((∃ k, pos false L (key hash pn 0) ≤ k ∧ P nS k h n ∧ ∀ hk : k < L.length, same hash pn L[k] = false) ∨ R nS h n)
set_option maxHeartbeats 4000000 in
theorem f106 (Y : AVal) (c1 c2 x : Nat) (hash : List UInt8) (pn : Int) (hl : hash.length = 32) (L S : List Ver) (D : Nat → Prop) (P : Nat → Nat → Hp → Nat → Prop) (R : Nat → Hp → Nat → Prop) (vl vs : AVal) (xl xs : List AVal) (h : Hp) (n : Nat)
    (iv : IxV h n D x vl vs xl xs L S) (mn : ∀ j, ownId vl = some j → j < n) (rL : Rises false L) (hc : L.length ≤ 1000000)
    (hY1 : Y.cells = [Y] ∧ oneCell Y = true ∧ isJunk Y = false) (hc1 : Row h c1 [.ptr x 0]) (hc2 : Row h c2 (pcells hash pn)) (hn1 : c1 < n) (hn2 : c2 < n) (hf : Free h n)
    (hP : ∀ nS k h n, P nS k h n → Rds h 1 vl L.length xl ∧ Ps h D xl L ∧ Free h n)
    (hS : ∀ h' nS, n ≤ nS → Free h' nS → Old h h' n → P nS (pos false L (key hash pn 0)) h' nS)
    (hst : ∀ nS k h1 n1 i b, n ≤ i → i < nS → P nS k h1 n1 → P nS k (upd h1 i b) n1)
    (hsr : ∀ nS h1 n1 i b, n ≤ i → i < nS → R nS h1 n1 → R nS (upd h1 i b) n1)
    (hY : ∀ (nS k : Nat) (hk : k < L.length) (id : Nat) (sv : AVal) (h1 : Hp) (n1 : Nat), n ≤ nS → pos false L (key hash pn 0) ≤ k → P nS k h1 n1 → At h1 id sv L[k] → D id → (∀ j, ownId sv = some j → D j) → same hash pn L[k] = true →
      Wp (callV env (evalW env) Y [.ptr id 0]) h1 n1 fun v' h' n' => ((yes true v' ∧ P nS (k + 1) h' n') ∨ (yes false v' ∧ R nS h' n')) ∧ (∀ j, n ≤ j → j < nS → h' j = h1 j) ∧ h' c2 = h1 c2) :
    Wp (callI env (evalW env) 106 [Y, .ptr c1 0, .ptr c2 0]) h n fun v' h' n' => v' = .tup [] ∧ Told hash pn L P R n h' n' := by
  refine wp_callI ff106 fi106 ?_
  simp only [fu106, Try.f106, Option.getD_some, List.replicate, core1, execOp, opd, nth, ended, resultOf, oneOrTup, List.cons_append, List.nil_append, List.length_cons, List.length_nil, Nat.reduceAdd, Nat.reduceSub, true_and, Nat.zero_add, wp_pure]
  refine opv_box (v := Y) ti129 hY1.2.2 hf fun H1 r1 o1 f1 => ?_
  rw [hY1.1] at r1
  have old1 : Old h H1 n := fun j hj => o1 j (by omega)
  simp only [core1, fgr, execOp, opd, putT, put, nth, forgetL]
  rw [opv_rd ((hc1.keep (old1 c1 hn1)).one (off := 0) rfl ti56 rfl)]
  simp only [core1, hkr, execOp, opd, opds, putT, put, nth, doCall, callV_func, List.nil_append, List.append_nil]
  refine opv_same (f73 x _ true H1 (n + 1) (iv.row.keep (old1 x iv.xn)) rfl) ?_
  simp only [core1, fgr, opd, putT, put, nth, forgetL, Bool.not_true]
  refine run_draw.2 ⟨rfl, ?_⟩
  simp only [fe_cons, execOp, opd, nth]
  rw [fev_rd ((hc1.keep (old1 c1 hn1)).one (off := 0) rfl ti56 rfl)]
  simp only [fe_cons, fev_pure, core1, tyr, execOp, opd, putT, put, nth, und, sizeOf, nilCheck, getO, moved, fieldAddr, List.getElem?_cons_succ, List.getElem?_cons_zero, Nat.reduceAdd, Nat.zero_add]
  have hld : Rd (load env 28 (.ptr c2 0)) H1 (n + 1) [c2] (.agg (pcells hash pn)) := Row.whole (hc2.keep (old1 c2 hn2)) ti28 rfl (pcells_len hl)
  rw [fev_rd hld]
  have b31 : build env 31 [(0, .agg (pcells hash pn))] = M.pure (.agg (vcells (key hash pn 0) .nils)) := by
    have h1 : (AVal.agg (pcells hash pn)).cells.length = 33 := pcells_len hl
    have e1 : ∀ pl : Nat → Option (Nat × Nat), pl 0 = some (0, 33) → fill pl ty31.i.zero.cells [(0, .agg (pcells hash pn))] = some (vcells (key hash pn 0) .nils) := fun pl p0 => by
      rw [z31, fill_at p0 rfl rfl h1 rfl, List.nil_append]
      simp only [fill]
      congr 1
    have e2 : build env 31 [(0, .agg (pcells hash pn))] = (getO "build" (fill ([(0, 33), (33, 1), (34, 1), (35, 1), (36, 1), (37, 1), (38, 32)][·]?) ty31.i.zero.cells [(0, .agg (pcells hash pn))])).bind fun cs => M.pure (.agg cs) := rfl
    rw [e2, e1 _ rfl]
    rfl
  simp only [fe_cons, fev_pure, execOp, opd, ops2, putT, put, nth, cel, alloc, Nat.reduceAdd, b31]
  refine fev_row' (xs := vcells (key hash pn 0) .nils) ti31 f1 fun H2 r2 o2 f2 => ?_
  have old2 : Old h H2 n := fun j hj => by rw [o2 j (by omega), old1 j hj]
  simp only [fe_cons, hkr, execOp, opd, opds, putT, put, nth, doCall, callV_func, List.nil_append, List.append_nil, Nat.reduceAdd]
  refine fev_any f2 (f88 x 1 (n + 1) H2 (n + 1 + 1)) fun v3 h3 n3 r3 w3 hn3 f3 ⟨e3, eh3, en3⟩ => ?_
  subst e3; subst en3
  simp only [fe_nil, core1, fgr, putT, put, forgetL, Nat.reduceAdd]
  refine ⟨(by (try simp (disch := first | assumption | omega) only [fine, List.all_cons, List.all_nil, clash_pl, clash_pr, clash_rr, Bool.not_false, Bool.true_or, Bool.and_true, Bool.true_and, clash_xn]); repeat' (first | rfl | exact (Bool.or_eq_true _ _).mpr (.inr rfl) | refine (Bool.and_eq_true _ _).mpr ⟨?_, ?_⟩)), ?_⟩
  have g0 : Row h3 n [Y] := by rw [eh3]; exact ((r1.keep (o2 n (by omega))).upd (by omega)).upd (by omega)
  have g1 : h3 (n + 1) = some (.row (.l (vcells (key hash pn 0) .nils)) 31) := by rw [eh3, upd_ne _ _ (by omega), upd_ne _ _ (by omega)]; exact r2
  have g2 : Row h3 (n + 1 + 1) [.ptr x 1] := by rw [eh3]; exact (Row.new _ _ _ _).upd (by omega)
  have g3 : Row h3 (n + 1 + 1 + 1) [.ptr (n + 1) 0] := by rw [eh3]; exact Row.new _ _ _ _
  have old3 : Old h h3 n := fun j hj => by rw [eh3, upd_ne _ _ (by omega), upd_ne _ _ (by omega), old2 j hj]
  clear eh3
  refine run_range (g := 109) (first := []) (cap := [.ptr (n + 1 + 1) 0, .ptr (n + 1 + 1 + 1) 0]) rfl rfl ?_
  let TM : List AVal := (Y :: .ptr c1 0 :: .ptr c2 0 :: .ptr n 0 :: undef :: AVal.junk :: .bool false :: AVal.junk :: AVal.junk :: AVal.junk :: AVal.junk :: AVal.junk :: AVal.junk :: .fn (.func 109) [] [.ptr (n + 1 + 1) 0, .ptr (n + 1 + 1 + 1) 0] :: undef :: AVal.junk :: AVal.junk :: AVal.junk :: AVal.junk :: AVal.junk :: AVal.junk :: AVal.junk :: AVal.junk :: AVal.junk :: AVal.junk :: AVal.junk :: undef :: [])
  obtain ⟨H4, hH4⟩ : ∃ H4, H4 = upd h3 (n + 1 + 1 + 1 + 1) (some (Blk.loop (L106 TM))) := ⟨_, rfl⟩
  have f4 : Free H4 (n + 1 + 1 + 1 + 1 + 1) := by rw [hH4]; exact f3.new
  have o4 : ∀ j, j ≠ n + 1 + 1 + 1 + 1 → H4 j = h3 j := fun j hj => by rw [hH4, upd_ne _ _ hj]
  have r4 : H4 (n + 1 + 1 + 1 + 1) = some (Blk.loop (L106 TM)) := by rw [hH4, upd_same]
  have old4 : Old h H4 n := fun j hj => by rw [o4 j (by omega), old3 j hj]
  show Wp (callF env (evalW env) 109 [AVal.fn (Fn.yield (n + 1 + 1 + 1 + 1)) [] [], AVal.ptr (n + 1 + 1) 0, AVal.ptr (n + 1 + 1 + 1) 0]) (upd h3 (n + 1 + 1 + 1 + 1) (some (Blk.loop (L106 TM)))) (n + 1 + 1 + 1 + 1 + 1) _
  rw [hk109, ← hH4]
  clear hH4
  have hl0 := iv.l.keep (h' := H4) (fun j q => old4 j (mn j q))
  have hp0 := iv.lp.mono (D' := D) (fun j q => q) (fun j q => old4 j (iv.dn j q))
  have kt : AtN H4 (n + 1 + 1 + 1 + 1 + 1) (n + 1) .nils (key hash pn 0) := ⟨⟨⟨_, (o4 (n + 1) (by omega)).trans g1⟩, .nils, key_ok hl⟩, by omega, fun j q => by cases q⟩
  have hro : Roomy vl := by
    have q := iv.l
    generalize L.length = len at q
    cases q with
    | nil => trivial
    | zero => exact Nat.le_refl _
    | sl => trivial
  refine wp_mono (f109 false (.fn (.yield (n + 1 + 1 + 1 + 1)) [] []) (n + 1 + 1) (n + 1 + 1 + 1) x 1 _ vl (n + 1) .nils (key hash pn 0) L.length xl L D
    (fun k h1 n1 => ∃ nS, n + 1 + 1 + 1 + 1 < nS ∧ P nS k h1 n1 ∧ h1 (n + 1 + 1 + 1 + 1) = some (.loop (L106 TM)) ∧ Row h1 n [Y] ∧ Row h1 c2 (pcells hash pn))
    (fun h1 n1 => ∃ l nS, h1 (n + 1 + 1 + 1 + 1) = some (.loop l) ∧ l.state = .done ∧ l.pending = some .ret ∧ n + 1 + 1 + 1 + 1 < nS ∧ ((∃ k, pos false L (key hash pn 0) ≤ k ∧ P nS k h1 n1 ∧ ∀ hk : k < L.length, same hash pn L[k] = false) ∨ R nS h1 n1))
    H4 (n + 1 + 1 + 1 + 1 + 1) (g2.keep (o4 _ (by omega))) (g3.keep (o4 _ (by omega))) (iv.row.keep (old4 x iv.xn)) rfl rfl hc hl0.rds hro (fun j q => by have := mn j q; omega) hp0 (fun j q => by have := iv.dn j q; omega) kt (rL.mono _) f4 (by omega) (by have := iv.xn; omega) ?_ ?_ ?_) ?_
  · rintro k h1 n1 ⟨nS, _, hp, _⟩
    exact hP nS k h1 n1 hp
  · intro p h' n' hpos hn' hf' ho'
    have oo : Old h h' n := fun j hj => by rw [ho' j (by omega), old4 j hj]
    refine ⟨n', by omega, by rw [hpos.eq]; exact hS h' n' (by omega) hf' oo, (ho' _ (by omega)).trans r4, (g0.keep (o4 n (by omega))).keep (ho' n (by omega)), hc2.keep (oo c2 hn2)⟩
  · rintro p k hk id sv h1 n1 hpos hpk ⟨nS, hnS, hp, hlo, hrY, hrc⟩ hx a d1 d2
    obtain ⟨_, hps, hf1'⟩ := hP nS k h1 n1 hp
    refine wp_yield hlo rfl rfl ?_
    simp only [ra106_0, List.getD_cons_zero, putAll, List.zip_cons_cons, List.zip_nil_left, L106, TM, rangesOf, Try.f106, Option.getD_some, core1, fgr, execOp, opd, putT, put, nth, forgetL, List.nil_append, List.append_nil, true_and]
    refine ⟨_, hlo, rfl, ?_⟩
    have hidn : id < n := iv.dn id d1
    have hpk' : pos false L (key hash pn 0) ≤ k := by rw [← hpos.eq]; exact hpk
    obtain ⟨h2, hh2⟩ : ∃ h2, h2 = upd h1 (n + 1 + 1 + 1 + 1) (some (Blk.loop { L106 TM with state := .busy })) := ⟨_, rfl⟩
    have ho2 : ∀ j, j ≠ n + 1 + 1 + 1 + 1 → h2 j = h1 j := fun j hj => by rw [hh2, upd_ne _ _ hj]
    have hlo2 : h2 (n + 1 + 1 + 1 + 1) = some (.loop { L106 TM with state := .busy }) := by rw [hh2, upd_same]
    have hp2 : P nS k h2 n1 := by rw [hh2]; exact hst nS k h1 n1 _ _ (by omega) hnS hp
    have a2 : At h2 id sv L[k] := a.keep (ho2 id (by omega)) (fun j q => ho2 j (by have := iv.dn j (d2 j q); omega))
    have hrY2 := hrY.keep (ho2 n (by omega))
    have hrc2 := hrc.keep (ho2 c2 (by omega))
    show Run env 106 _ _ _ _ _ (upd h1 (n + 1 + 1 + 1 + 1) (some (Blk.loop { L106 TM with state := .busy }))) n1
    rw [← hh2]
    clear hh2
    obtain ⟨_, _, hf2⟩ := hP nS k h2 n1 hp2
    simp only [rb106_0, List.getD_cons_zero, rangesOf, Try.f106, Option.getD_some, core1, List.nil_append, List.append_nil]
    refine run_draw.2 ⟨rfl, ?_⟩
    simp only [fe_cons, fev_pure, core1, tyr, execOp, opd, putT, put, nth, und, sizeOf, nilCheck, getO, moved, fieldAddr, List.getElem?_cons_zero, Nat.reduceAdd, Nat.zero_add]
    rw [fev_rd (row_pt a2.row a2.ok)]
    simp only [fe_cons, execOp, opd, putT, put, nth, Nat.reduceAdd]
    have hld2 : Rd (load env 28 (.ptr c2 0)) h2 n1 [c2] (.agg (pcells hash pn)) := Row.whole hrc2 ti28 rfl (pcells_len hl)
    rw [fev_rd hld2]
    have hne := neq28 L[k].hash hash L[k].pn pn a2.ok.h hl
    cases hsm : same hash pn L[k] with
    | false =>
      have e1 : (decide (L[k].hash = hash) && (L[k].pn == pn)) = false := hsm
      rw [e1] at hne
      simp only [fe_nil, fe_cons, fe_guard, fego_some, feg_bool, feg_ft, fev_ask, fev_pure, core1, fgr, execOp, opd, ofValue, putT, put, nth, forgetL, doPick, branch, List.getElem?_cons_succ, List.getElem?_cons_zero, Nat.reduceAdd, Bool.not_false, hne]
      exact ⟨(by (try simp (disch := first | assumption | omega) only [fine, List.all_cons, List.all_nil, clash_pr, clash_rr, Bool.not_false, Bool.true_or, Bool.and_true]); repeat' (first | rfl | exact (Bool.or_eq_true _ _).mpr (.inr rfl) | refine (Bool.and_eq_true _ _).mpr ⟨?_, ?_⟩)), _, hlo2, .inr ⟨.inl rfl, _, nS, upd_same _ _ _, rfl, rfl, hnS, .inl ⟨k, hpk', hst nS _ _ _ _ _ (by omega) hnS hp2, fun _ => hsm⟩⟩⟩
    | true =>
      have e1 : (decide (L[k].hash = hash) && (L[k].pn == pn)) = true := hsm
      rw [e1] at hne
      simp only [fe_cons, fe_guard, fego_some, feg_bool, feg_ff, fev_pure, execOp, opd, putT, put, nth, List.getElem?_cons_succ, List.getElem?_cons_zero, Nat.reduceAdd, Bool.not_true, hne]
      rw [fev_rd (hrY2.one (off := 0) rfl ti129 rfl)]
      simp only [fe_guard, fego_some, feg_bool, feg_ff, fev_pure, execOp, opd, opds, putT, put, nth, doCall, List.getElem?_cons_succ, List.getElem?_cons_zero, Nat.reduceAdd]
      refine fev_any hf2 (hY nS k hk id sv h2 n1 (by omega) hpk' hp2 a2 d1 d2 hsm) fun v6 h6 n6 r6 w6 hn6 f6 ⟨hres, hkeep, hkc⟩ => ?_
      have hlo6 : h6 (n + 1 + 1 + 1 + 1) = some (.loop { L106 TM with state := .busy }) := (hkeep _ (by omega) hnS).trans hlo2
      rcases hres with ⟨e6 | e6, hp6⟩ | ⟨e6 | e6, hr6⟩
      · subst e6
        simp only [fe_nil, fe_cons, fe_guard, fego_some, feg_bool, feg_ff, fev_ask, fev_pure, core1, fgr, execOp, opd, ofValue, putT, put, nth, forgetL, unOp, doPick, branch, List.getElem?_cons_succ, List.getElem?_cons_zero, Nat.reduceAdd, Bool.not_true]
        exact ⟨(by (try simp (disch := first | assumption | omega) only [fine, List.all_cons, List.all_nil, clash_pl, clash_pr, clash_rr, Bool.not_false, Bool.true_or, Bool.and_true, Bool.true_and]); repeat' (first | rfl | exact (Bool.or_eq_true _ _).mpr (.inr rfl) | refine (Bool.and_eq_true _ _).mpr ⟨?_, ?_⟩)), _, hlo6, .inl ⟨.inl rfl, nS, hnS, hst nS _ _ _ _ _ (by omega) hnS hp6, upd_same _ _ _, (hrY2.keep (hkeep n (Nat.le_refl _) (by omega))).upd (by omega), (hrc2.keep hkc).upd (by omega)⟩⟩
      · subst e6
        simp only [fe_nil, fe_cons, fe_guard, fego_some, feg_bool, feg_ff, fev_ask, fev_pure, core1, fgr, execOp, opd, ofValue, putT, put, nth, forgetL, unOp, doPick, branch, List.getElem?_cons_succ, List.getElem?_cons_zero, Nat.reduceAdd, Bool.not_true]
        exact ⟨(by (try simp (disch := first | assumption | omega) only [fine, List.all_cons, List.all_nil, clash_pl, clash_pr, clash_rr, Bool.not_false, Bool.true_or, Bool.and_true, Bool.true_and]); repeat' (first | rfl | exact (Bool.or_eq_true _ _).mpr (.inr rfl) | refine (Bool.and_eq_true _ _).mpr ⟨?_, ?_⟩)), _, hlo6, .inl ⟨.inl rfl, nS, hnS, hst nS _ _ _ _ _ (by omega) hnS hp6, upd_same _ _ _, (hrY2.keep (hkeep n (Nat.le_refl _) (by omega))).upd (by omega), (hrc2.keep hkc).upd (by omega)⟩⟩
      · subst e6
        simp only [fe_nil, fe_cons, fe_guard, fego_some, feg_bool, feg_ff, fev_ask, fev_pure, core1, fgr, execOp, opd, ofValue, putT, put, nth, forgetL, unOp, doPick, branch, List.getElem?_cons_succ, List.getElem?_cons_zero, Nat.reduceAdd, Bool.not_false]
        exact ⟨(by (try simp (disch := first | assumption | omega) only [fine, List.all_cons, List.all_nil, clash_pl, clash_pr, clash_rr, Bool.not_false, Bool.true_or, Bool.and_true, Bool.true_and]); repeat' (first | rfl | exact (Bool.or_eq_true _ _).mpr (.inr rfl) | refine (Bool.and_eq_true _ _).mpr ⟨?_, ?_⟩)), _, hlo6, .inr ⟨.inl rfl, _, nS, upd_same _ _ _, rfl, rfl, hnS, .inr (hsr nS _ _ _ _ (by omega) hnS hr6)⟩⟩
      · subst e6
        simp only [fe_nil, fe_cons, fe_guard, fego_some, feg_bool, feg_ff, fev_ask, fev_pure, core1, fgr, execOp, opd, ofValue, putT, put, nth, forgetL, unOp, doPick, branch, List.getElem?_cons_succ, List.getElem?_cons_zero, Nat.reduceAdd, Bool.not_false]
        exact ⟨(by (try simp (disch := first | assumption | omega) only [fine, List.all_cons, List.all_nil, clash_pl, clash_pr, clash_rr, Bool.not_false, Bool.true_or, Bool.and_true, Bool.true_and]); repeat' (first | rfl | exact (Bool.or_eq_true _ _).mpr (.inr rfl) | refine (Bool.and_eq_true _ _).mpr ⟨?_, ?_⟩)), _, hlo6, .inr ⟨.inl rfl, _, nS, upd_same _ _ _, rfl, rfl, hnS, .inr (hsr nS _ _ _ _ (by omega) hnS hr6)⟩⟩
  · rintro v5 h5 n5 ⟨e5, hh⟩
    rcases hh with ⟨nS, hnS, hp, hlo, hrY, hrc⟩ | ⟨l, nS, hlo, hst1, hpe, hnS, hh⟩
    · refine ⟨_, hlo, (fun q => by cases q), .normal, rfl, ?_⟩
      simp only [core1, true_and]
      refine ⟨nS, by omega, .inl ⟨L.length, Nat.le_trans (List.countP_le_length) (Nat.le_refl _), hst nS _ _ _ _ _ (by omega) (by omega) hp, fun hk => absurd hk (Nat.lt_irrefl _)⟩⟩
    · refine ⟨_, hlo, (fun q => by rw [hst1] at q; cases q), .ret, by rw [hpe], ?_⟩
      simp only [core1, true_and]
      refine ⟨nS, by omega, ?_⟩
      rcases hh with ⟨k, hk1, hk2, hk3⟩ | hr
      · exact .inl ⟨k, hk1, hst nS _ _ _ _ _ (by omega) (by omega) hk2, hk3⟩
      · exact .inr (hsr nS _ _ _ _ (by omega) (by omega) hr)
/- An outpoint's version at a height. -/
noncomputable def L37 (tm : List AVal) : ALoop := { state := .ready, pending := none, fn := 37, tmps := tm, params := [13], assign := ra37_0, body := rb37_0 }
/-- The last one that is there, of those told up to k. -/
def fnd (L : List Ver) (p k : Nat) (z : Int) : Option Ver := (((L.take k).drop p).filter fun v => there v z).getLast?
theorem fnd_0 (L : List Ver) (p : Nat) (z : Int) : fnd L p p z = none := by
  unfold fnd
  rw [List.drop_eq_nil_of_le (by rw [List.length_take]; omega)]; rfl
theorem fnd_s {L : List Ver} {p k : Nat} (hp : p ≤ k) (hk : k < L.length) (z : Int) : fnd L p (k + 1) z = if there L[k] z then some L[k] else fnd L p k z := by
  unfold fnd
  rw [List.take_add_one, List.getElem?_eq_getElem hk, List.drop_append_of_le_length (by rw [List.length_take]; omega), List.filter_append]
  by_cases c : there L[k] z = true
  · rw [if_pos c]; simp [c]
  · rw [if_neg c]; simp [c]
theorem fnd_mem {L : List Ver} {p k : Nat} {z : Int} {w : Ver} (h : fnd L p k z = some w) : w ∈ L := by
  have := List.mem_of_getLast? h
  exact List.mem_of_mem_take (List.mem_of_mem_drop (List.mem_filter.1 this).1)
theorem b31z : build env 31 [] = M.pure (.agg ty31.i.zero.cells) := rfl
/-- What the cell holds. -/
def CellOk (H : Hp) (D : Nat → Prop) (c : AVal) (o : Option Ver) : Prop := (c = .nilp ∧ o = none) ∨ ∃ id sv w, c = .ptr id 0 ∧ o = some w ∧ At H id sv w ∧ D id ∧ ∀ j, ownId sv = some j → D j
structure P37 (H6 : Hp) (n : Nat) (D : Nat → Prop) (L : List Ver) (hash : List UInt8) (pn z : Int) (lo : ALoop) (nS k : Nat) (h1 : Hp) (n1 : Nat) : Prop where
  fr : Free h1 n1
  ns : nS ≤ n1
  kp : ∀ j, j < n + 1 + 1 + 1 + 1 + 1 + 1 + 1 → j ≠ n + 1 + 1 + 1 → j ≠ n + 1 + 1 + 1 + 1 + 1 + 1 → h1 j = H6 j
  lp : h1 (n + 1 + 1 + 1 + 1 + 1 + 1) = some (.loop lo)
  cl : ∃ c, h1 (n + 1 + 1 + 1) = some (.row (.l [c]) 128) ∧ CellOk H6 D c (fnd L (pos false L (key hash pn 0)) k z)
  sm : ∀ i (hi : i < L.length), pos false L (key hash pn 0) ≤ i → i < k → same hash pn L[i] = true
end Go.Am.Ytlgebaofkolkoaa
