/- The functions that the statement reaches, gone through. -/
import Derived.Test.YtmoplhbncjicbaaSkCoC
set_option linter.unusedSimpArgs false
set_option linter.unusedVariables false
set_option linter.defProp false
set_option maxRecDepth 10000
namespace Go.Am.Ytmoplhbncjicbaa
open Go Go.Am Go.Proofs
set_option maxHeartbeats 8000000 in
theorem f69 (p : Nat) (c : Int) (ls os : List (List UInt8)) (D M : Nat → Prop) (h : Hp) (n : Nat) (hs : Stk h n D M p ls os) (hl : ls.length ≤ 5000) (hol : os.length ≤ 5000) (hel : ∀ l ∈ ls, l.length ≤ 900000) (h0 : 0 ≤ leastV c) (h1 : leastV c ≤ (ls.length : Nat)) (hf : Free h n) :
    Wp (callI env (evalW env) 69 [.ptr p 0, .int .u8 c]) h n (DoPost c ls os D M p h n) := by
  refine wp_callI ff69 fi69 ?_
  simp only [fu69, Try.f69, Option.getD_some, List.replicate, core1, fgr, hkr, execOp, opd, opds, ofValue, putT, put, nth, forgetL, doCall, callV_func, ended, resultOf, oneOrTup, List.append_eq, List.cons_append, List.nil_append, List.append_nil, List.length_cons, List.length_nil, Nat.reduceAdd, Nat.reduceSub, Nat.zero_add, wp_pure]
  refine opv_callf hf (f100 c h n hf) fun v1 g1 n1 hn1 f1 ⟨s, e1, r1, i1, o1⟩ => ?_
  subst e1
  have s1 := hs.old hn1 o1
  cases hfm : frm c with
  | some x =>
    have hif : isF c = true := by unfold isF; rw [hfm]; rfl
    have hix : idxs c = x.2 := by unfold idxs; rw [hfm]
    have hlv : leastV c = (x.1 : Nat) := by unfold leastV; rw [hfm]
    have hE : doE c ls os = 0 := by unfold doE; rw [hfm]
    have hL : doL c ls os = ls.take (ls.length - x.1) ++ pickL (ls.drop (ls.length - x.1)) x.2 := by unfold doL; rw [hfm]
    have hO : doO c ls os = os := by unfold doO; rw [hfm]
    obtain ⟨k1, k2, k3⟩ := frm_ok hfm
    rw [hix] at r1
    simp only [core1, fgr, execOp, opd, putT, put, nth, forgetL, extract, getO, List.getElem?_cons_succ, List.getElem?_cons_zero, hif]
    refine run_draw ⟨rfl, ?_⟩
    simp only [fe_cons, fev_pure, core1, tyr, hkr, execOp, opd, opds, putT, put, nth, doCall, callV_func, und, sizeOf, nilCheck, getO, moved, fieldAddr, List.getElem?_cons_zero, List.nil_append, List.append_nil, Nat.reduceAdd, Nat.zero_add]
    refine fev_any f1 (f67 g1 n1 c) fun v2 g2 n2 r2 w2 hn2 f2 ⟨e2, e3, e4⟩ => ?_
    subst e2; subst e3; subst e4
    simp only [fe_cons, hkr, execOp, opd, opds, putT, put, nth, doCall, callV_func, List.nil_append, List.append_nil, Nat.reduceAdd, hlv]
    refine fev_any f2 (cut0 p x.1 ls os D M g2 n2 s1 (by omega) (by omega) f2) fun v3 g3 n3 r3 w3 hn3 f3 ⟨ys, l3, el3, i3, s3, c3⟩ => ?_
    simp only [fe_nil, fe_cons, fev_pure, core1, fgr, execOp, opd, opds, putT, put, nth, forgetL, doCall, builtin, one1, Nat.reduceAdd]
    refine ⟨(by (try simp (disch := first | assumption | omega) only [fine, List.all_cons, List.all_nil, clash_pl, clash_pr, Bool.not_false, Bool.true_or, Bool.and_true, Bool.true_and]); repeat' (first | rfl | exact (Bool.or_eq_true _ _).mpr (.inr rfl) | refine (Bool.and_eq_true _ _).mpr ⟨?_, ?_⟩)), ?_⟩
    have hdl : (ls.drop (ls.length - x.1)).length = x.1 := by rw [List.length_drop]; omega
    have r3' : Rds g3 1 s x.2.length (x.2.map iN) := r1.keep fun j hj => c3.old j (by
      cases s with
      | sl id off len cap sz =>
        injection hj with hj; subst hj
        cases r1 with
        | sl id off cnt cap c e xs hh hl hs hc =>
          by_cases q : id < n2
          · exact q
          · rw [f1 id (by omega)] at hh; cases hh
      | _ => cases hj) (fun q => by have := i1 j hj; have := (hs.m j q).1; omega)
    have hsn : ∀ j, ownId s = some j → j < n3 ∧ ¬ M j := fun j hj => by
      have h5 := i1 j hj
      refine ⟨?_, fun q => by have := (hs.m j q).1; omega⟩
      cases s with
      | sl id off len cap sz =>
        injection hj with hj; subst hj
        cases r3' with
        | sl id off cnt cap c e xs hh hl hs hc =>
          by_cases q : id < n3
          · exact q
          · rw [f3 id (by omega)] at hh; cases hh
      | _ => cases hj
    simp only [core1, fgr, execOp, opd, ofValue, putT, put, forgetL, r3'.bLen u114]
    refine loop69 _ _ p x.1 n x.2 s v3 (.int .u8 c) ys (ls.take (ls.length - x.1)) (ls.drop (ls.length - x.1)) os D M h (fun i hi => by rw [hdl]; exact k1 i hi) (by rw [List.length_take]; omega) ?_ x.2.length 0 g3 n3 M _ _ _ _ _ _ _ _ _ _ _ (by omega) (by rw [List.take_zero]; unfold pickL; rw [List.map_nil, List.append_nil]; exact s3) r3' (by rw [hdl]; exact l3.rds) el3 hsn (fun j hj => ⟨(i3 j hj).2, fun q => by have := (i3 j hj).1; have := (s1.m j q).1; omega⟩) ((Ch2.of f1 hn1 o1).trans c3) f3
    intro g4 n4 M4 x9 x15 x24 x25 x38 x43 x53 x59 x68 x74 x84 x92 s4 c4
    simp only [core1, fgr, execOp, opd, ofValue, putT, put, nth, forgetL, true_and]
    refine ⟨by rw [hE], D, M4, c4.chg (fun _ q => q) (fun _ q => .inl q), fun _ => ?_⟩
    rw [hL, hO]; exact s4
  | none =>
    have hif : isF c = false := by unfold isF; rw [hfm]; rfl
    have hE0 : doE c ls os = if c = 107 then 0 else if c = 108 then (if os = [] then 120 else 0) else if c = 115 then 0 else if c = 116 then 0 else if c = 130 then 0 else farE ls := by unfold doE; rw [hfm]
    have hL0 : doL c ls os = if c = 107 then popL ls else if c = 108 then ls ++ [top os] else if c = 115 then (if tv (top ls) = true then ls ++ [top ls] else ls) else if c = 116 then ls ++ [encL (ls.length : Nat)] else if c = 130 then ls ++ [encL ((top ls).length : Nat)] else farL (decide (c = 122)) ls := by unfold doL; rw [hfm]
    have hO0 : doO c ls os = if c = 107 then os ++ [top ls] else if c = 108 then popL os else os := by unfold doO; rw [hfm]
    have c01 : Ch2 h n M g1 n1 M := .of f1 hn1 o1
    have htl : (top ls).length ≤ 900000 := top_len hel 0
    by_cases e107 : c = 107
    · subst e107
      have lv : leastV 107 = 1 := lv107
      have hne : ls ≠ [] := fun q => by subst q; rw [lv] at h1; simp at h1
      have hp := List.length_pos_iff.2 hne
      rw [if_pos rfl] at hE0 hL0 hO0
      simp only [core1, fgr, execOp, opd, ofValue, putT, put, nth, forgetL, bor, binInt, shiftB, intOp, extract, getO, List.getElem?_cons_succ, List.getElem?_cons_zero, decide_true, beq_self_eq_true, hif]
      refine run_draw ⟨rfl, ?_⟩
      simp only [fe_cons, fev_pure, core1, tyr, hkr, execOp, opd, opds, ofValue, putT, put, nth, doCall, callV_func, und, sizeOf, nilCheck, getO, moved, fieldAddr, List.getElem?_cons_succ, List.getElem?_cons_zero, List.nil_append, List.append_nil, Nat.reduceAdd, Nat.zero_add]
      refine fev_any f1 (cut0 p 1 ls os D M g1 n1 s1 (by omega) (by omega) f1) fun v3 g3 n3 r3 w3 hn3 f3 ⟨ys, l3, el3, i3, s3, c3⟩ => ?_
      rw [drop_last hne] at el3
      simp only [fe_cons, hkr, execOp, opd, opds, putT, put, nth, doCall, callV_func, List.nil_append, List.append_nil, Nat.reduceAdd]
      refine fev_any f3 (put1 p 1 v3 ys [top ls] _ os D M D g3 n3 s3 l3.rds el3 s3.d (by omega) f3) fun v4 g4 n4 r4 w4 hn4 f4 ⟨e4, M', s4, c4⟩ => ?_
      subst e4
      simp only [fe_nil, core1, fgr, execOp, opd, ofValue, putT, put, nth, forgetL, Nat.reduceAdd, true_and]
      refine ⟨(by (try simp (disch := first | assumption | omega) only [fine, List.all_cons, List.all_nil, clash_pl, clash_pr, Bool.not_false, Bool.true_or, Bool.and_true]); repeat' (first | rfl | exact (Bool.or_eq_true _ _).mpr (.inr rfl) | refine (Bool.and_eq_true _ _).mpr ⟨?_, ?_⟩)), ?_⟩
      refine ⟨by rw [hE0], D, M', ((c01.trans c3).trans c4).chg (fun _ q => q) (fun _ q => .inl q), fun _ => ?_⟩
      rw [hL0, hO0]
      exact s4.same or_idem
    rw [if_neg e107] at hE0 hL0 hO0
    by_cases e108 : c = 108
    · subst e108
      rw [if_pos rfl] at hE0 hL0 hO0
      simp only [core1, tyr, fgr, hkr, execOp, opd, opds, ofValue, putT, put, nth, forgetL, doCall, callV_func, und, sizeOf, bor, binInt, shiftB, intOp, nilCheck, extract, getO, moved, fieldAddr, List.getElem?_cons_succ, List.getElem?_cons_zero, List.nil_append, List.append_nil, int_beq, Int.reduceEq, decide_true, decide_false, Nat.zero_add, beq_self_eq_true, hif]
      obtain ⟨vl, vo, xl, xo, sv, mp, ml, mo, mn⟩ := s1
      refine opv_same (f66 p 1 vo [vl, vo] os.length xo g1 n1 sv.row rfl sv.o.rds) ?_
      by_cases hos : os = []
      · subst hos
        rw [if_pos rfl] at hE0
        simp only [core1, fgr, execOp, opd, ofValue, putT, put, nth, forgetL, bor, binInt, shiftB, intOp, List.length_nil, Int.cast_ofNat_Int, decide_true, true_and, beq_self_eq_true, List.length_nil]
        exact ⟨by rw [hE0], D, M, c01.chg (fun _ q => q) (fun _ q => .inl q), fun q => by rw [hE0] at q; cases q⟩
      rw [if_neg hos] at hE0
      have hp := List.length_pos_iff.2 hos
      have hne : ¬ ((os.length : Nat) : Int) = 0 := by omega
      simp only [core1, fgr, execOp, opd, ofValue, putT, put, nth, forgetL, bor, binInt, shiftB, intOp, int_beq, decide_true, decide_false, hne]
      refine run_draw ⟨rfl, ?_⟩
      simp only [fe_cons, fev_pure, core1, tyr, hkr, execOp, opd, opds, ofValue, putT, put, nth, doCall, callV_func, und, sizeOf, nilCheck, getO, moved, fieldAddr, List.getElem?_cons_succ, List.getElem?_cons_zero, List.nil_append, List.append_nil, Nat.reduceAdd, Nat.zero_add]
      refine fev_any f1 (cut1 p 1 ls os D M g1 n1 ⟨vl, vo, xl, xo, sv, mp, ml, mo, mn⟩ (by omega) (by omega) f1) fun v3 g3 n3 r3 w3 hn3 f3 ⟨ys, l3, el3, i3, s3, c3⟩ => ?_
      rw [drop_last hos] at el3
      simp only [fe_cons, hkr, execOp, opd, opds, putT, put, nth, doCall, callV_func, List.nil_append, List.append_nil, Nat.reduceAdd]
      refine fev_any f3 (put0 p 1 v3 ys [top os] ls _ D M D g3 n3 s3 l3.rds el3 s3.d (by omega) f3) fun v4 g4 n4 r4 w4 hn4 f4 ⟨e4, M', s4, c4⟩ => ?_
      subst e4
      simp only [fe_nil, core1, fgr, execOp, opd, ofValue, putT, put, nth, forgetL, Nat.reduceAdd, true_and]
      refine ⟨(by (try simp (disch := first | assumption | omega) only [fine, List.all_cons, List.all_nil, clash_pl, clash_pr, Bool.not_false, Bool.true_or, Bool.and_true]); repeat' (first | rfl | exact (Bool.or_eq_true _ _).mpr (.inr rfl) | refine (Bool.and_eq_true _ _).mpr ⟨?_, ?_⟩)), ?_⟩
      refine ⟨by rw [hE0], D, M', ((c01.trans c3).trans c4).chg (fun _ q => q) (fun _ q => .inl q), fun _ => ?_⟩
      rw [hL0, hO0]
      exact s4.same or_idem
    rw [if_neg e108] at hE0 hL0 hO0
    by_cases e115 : c = 115
    · subst e115
      have lv : leastV 115 = 1 := lv115
      have hne : ls ≠ [] := fun q => by subst q; rw [lv] at h1; simp at h1
      have hp := List.length_pos_iff.2 hne
      rw [if_pos rfl] at hE0 hL0
      simp only [core1, tyr, fgr, hkr, execOp, opd, opds, ofValue, putT, put, nth, forgetL, doCall, callV_func, und, sizeOf, bor, binInt, shiftB, intOp, nilCheck, extract, getO, moved, fieldAddr, List.getElem?_cons_succ, List.getElem?_cons_zero, List.nil_append, List.append_nil, int_beq, Int.reduceEq, decide_true, decide_false, Nat.zero_add, beq_self_eq_true, hif]
      obtain ⟨vl, vo, xl, xo, sv, mp, ml, mo, mn⟩ := s1
      obtain ⟨x, hx1, hx2⟩ := elt sv.le hne
      refine opv_callf f1 (f71 p 0 0 ls.length vl x [vl, vo] xl g1 n1 sv.row rfl sv.l.rds hp (by omega) hx1 hx2.1.kind sv.pn (fun j hj => (mn j (ml j hj)).1) f1) fun v3 g3 n3 hn3 f3 ⟨e3, o3⟩ => ?_
      subst e3
      have s3 : Stk g3 n3 D M p ls os := Stk.old ⟨vl, vo, xl, xo, sv, mp, ml, mo, mn⟩ hn3 o3
      have hb3 : Bytes g3 v3 (top ls) := hx2.1.keep fun j hj => o3 j (sv.dn j (hx2.2 j hj))
      have c03 : Ch2 h n M g3 n3 M := c01.trans (.of f3 hn3 o3)
      simp only [core1, hkr, execOp, opd, opds, putT, put, nth, doCall, callV_func, List.nil_append, List.append_nil]
      refine opv_same (f19 v3 (top ls) g3 n3 hb3 (by omega)) ?_
      cases htv : tv (top ls) with
      | false =>
        rw [htv, if_neg (by decide)] at hL0
        simp only [core1, fgr, execOp, opd, ofValue, putT, put, nth, forgetL, true_and]
        refine ⟨by rw [hE0], D, M, c03.chg (fun _ q => q) (fun _ q => .inl q), fun _ => ?_⟩
        rw [hL0, hO0]; exact s3
      | true =>
        rw [htv, if_pos rfl] at hL0
        simp only [core1, fgr, opd, putT, put, nth, forgetL]
        refine run_draw ⟨rfl, ?_⟩
        simp only [fe_cons, fev_pure, core1, tyr, hkr, execOp, opd, opds, ofValue, putT, put, nth, doCall, callV_func, und, sizeOf, nilCheck, getO, moved, fieldAddr, List.getElem?_cons_zero, List.nil_append, List.append_nil, Nat.reduceAdd, Nat.zero_add]
        obtain ⟨vl, vo, xl, xo, sv, mp, ml, mo, mn⟩ := s3
        obtain ⟨x, hx1, hx2⟩ := elt sv.le hne
        refine fev_any f3 (f71 p 0 0 ls.length vl x [vl, vo] xl g3 n3 sv.row rfl sv.l.rds hp (by omega) hx1 hx2.1.kind sv.pn (fun j hj => (mn j (ml j hj)).1) f3) fun v4 g4 n4 r4 w4 hn4 f4 ⟨e4, o4⟩ => ?_
        subst e4
        have s4 : Stk g4 n4 D M p ls os := Stk.old ⟨vl, vo, xl, xo, sv, mp, ml, mo, mn⟩ hn4 o4
        have hx4 : El g4 D v4 (top ls) := hx2.mono (fun _ q => q) (fun j hj => o4 j (sv.dn j hj))
        simp only [fe_cons, execOp, opd, ops2, putT, put, nth, Nat.reduceAdd]
        rw [bs22 v4 hx2.1.kind]
        refine fev_row ti22 f4 fun g5 r5 w5 k5 o5 f5 => ?_
        have o5' : Old g4 g5 n4 := fun j hj => o5 j (by omega)
        have s5 := s4.old (n' := n4 + 1) (by omega) o5'
        simp only [fe_cons, hkr, execOp, opd, opds, putT, put, nth, doCall, callV_func, List.nil_append, List.append_nil, Nat.reduceAdd]
        refine fev_any f5 (put0 p 1 _ [v4] [top ls] ls os D M D g5 (n4 + 1) s5 (row_rds k5 rfl) (Els.one (hx4.mono (fun _ q => q) (fun j hj => o5' j (s4.d j hj).1))) s5.d (by omega) f5) fun v6 g6 n6 r6 w6 hn6 f6 ⟨e6, M', s6, c6⟩ => ?_
        subst e6
        simp only [fe_nil, core1, fgr, execOp, opd, ofValue, putT, put, nth, forgetL, Nat.reduceAdd, true_and]
        refine ⟨(by (try simp (disch := first | assumption | omega) only [fine, List.all_cons, List.all_nil, clash_pl, clash_pr, Bool.not_false, Bool.true_or, Bool.and_true]); repeat' (first | rfl | exact (Bool.or_eq_true _ _).mpr (.inr rfl) | refine (Bool.and_eq_true _ _).mpr ⟨?_, ?_⟩)), ?_⟩
        refine ⟨by rw [hE0], D, M', (((c03.trans (.of f4 hn4 o4)).trans (.of f5 (by omega) o5')).trans c6).chg (fun _ q => q) (fun _ q => .inl q), fun _ => ?_⟩
        rw [hL0, hO0]; exact s6.same or_idem
    rw [if_neg e115] at hE0 hL0
    by_cases e116 : c = 116
    · subst e116
      rw [if_pos rfl] at hE0 hL0
      simp only [core1, tyr, fgr, hkr, execOp, opd, opds, ofValue, putT, put, nth, forgetL, doCall, callV_func, und, sizeOf, bor, binInt, shiftB, intOp, nilCheck, extract, getO, moved, fieldAddr, List.getElem?_cons_succ, List.getElem?_cons_zero, List.nil_append, List.append_nil, int_beq, Int.reduceEq, decide_true, decide_false, Nat.zero_add, beq_self_eq_true, hif]
      obtain ⟨vl, vo, xl, xo, sv, mp, ml, mo, mn⟩ := s1
      refine opv_same (f66 p 0 vl [vl, vo] ls.length xl g1 n1 sv.row rfl sv.l.rds) ?_
      simp only [core1, hkr, execOp, opd, opds, putT, put, nth, doCall, callV_func, List.nil_append, List.append_nil]
      refine opv_callf f1 (f101 p ls.length ls os D M g1 n1 ⟨vl, vo, xl, xo, sv, mp, ml, mo, mn⟩ (by omega) (by omega) f1) fun v3 g3 n3 hn3 f3 ⟨D', M', s3, c3⟩ => ?_
      simp only [core1, fgr, execOp, opd, ofValue, putT, put, nth, forgetL, true_and]
      refine ⟨by rw [hE0], D', M', (c01.chg (fun _ q => q) (fun _ q => .inl q)).trans c3, fun _ => ?_⟩
      rw [hL0, hO0]; exact s3
    rw [if_neg e116] at hE0 hL0
    by_cases e130 : c = 130
    · subst e130
      have lv : leastV 130 = 1 := lv130
      have hne : ls ≠ [] := fun q => by subst q; rw [lv] at h1; simp at h1
      have hp := List.length_pos_iff.2 hne
      rw [if_pos rfl] at hE0 hL0
      simp only [core1, tyr, fgr, hkr, execOp, opd, opds, ofValue, putT, put, nth, forgetL, doCall, callV_func, und, sizeOf, bor, binInt, shiftB, intOp, nilCheck, extract, getO, moved, fieldAddr, List.getElem?_cons_succ, List.getElem?_cons_zero, List.nil_append, List.append_nil, int_beq, Int.reduceEq, decide_true, decide_false, Nat.zero_add, beq_self_eq_true, hif]
      obtain ⟨vl, vo, xl, xo, sv, mp, ml, mo, mn⟩ := s1
      obtain ⟨x, hx1, hx2⟩ := elt sv.le hne
      refine opv_callf f1 (f71 p 0 0 ls.length vl x [vl, vo] xl g1 n1 sv.row rfl sv.l.rds hp (by omega) hx1 hx2.1.kind sv.pn (fun j hj => (mn j (ml j hj)).1) f1) fun v3 g3 n3 hn3 f3 ⟨e3, o3⟩ => ?_
      subst e3
      have s3 : Stk g3 n3 D M p ls os := Stk.old ⟨vl, vo, xl, xo, sv, mp, ml, mo, mn⟩ hn3 o3
      have hb3 : Bytes g3 v3 (top ls) := hx2.1.keep fun j hj => o3 j (sv.dn j (hx2.2 j hj))
      have c03 : Ch2 h n M g3 n3 M := c01.trans (.of f3 hn3 o3)
      simp only [core1, hkr, execOp, opd, opds, putT, put, nth, doCall, callV_func, builtin, one1, List.nil_append, List.append_nil, hb3.bLen t22]
      refine opv_callf f3 (f101 p (top ls).length ls os D M g3 n3 s3 (by omega) (by omega) f3) fun v4 g4 n4 hn4 f4 ⟨D', M', s4, c4⟩ => ?_
      simp only [core1, fgr, execOp, opd, ofValue, putT, put, nth, forgetL, true_and]
      refine ⟨by rw [hE0], D', M', (c03.chg (fun _ q => q) (fun _ q => .inl q)).trans c4, fun _ => ?_⟩
      rw [hL0, hO0]; exact s4
    rw [if_neg e130] at hE0 hL0
    simp only [core1, fgr, hkr, execOp, opd, opds, ofValue, putT, put, nth, forgetL, doCall, callV_func, bor, binInt, shiftB, intOp, extract, getO, List.getElem?_cons_succ, List.getElem?_cons_zero, List.nil_append, List.append_nil, int_beq, decide_true, decide_false, hif, e107, e108, e115, e116, e130]
    refine opv_callf f1 (f102 p (decide (c = 122)) ls os D M g1 n1 s1 (by omega) hel f1) fun v3 g3 n3 hn3 f3 ⟨e3, M', c3, s3⟩ => ?_
    subst e3
    simp only [core1, fgr, execOp, opd, putT, put, nth, forgetL, true_and]
    refine ⟨by rw [hE0], D, M', (c01.trans c3).chg (fun _ q => q) (fun _ q => .inl q), fun q => ?_⟩
    rw [hL0, hO0]
    exact s3 (by rw [← hE0]; exact q)
/- An operation on a stack: with an error, it is as it was. -/
def allE (c : Int) (ls os : List (List UInt8)) : Int :=
  if leastV c < 0 then 2 else if (ls.length : Int) < leastV c then 120 else if doE c ls os = 0 then (if (doL c ls os).length + (doO c ls os).length ≤ 100 then 0 else 121) else doE c ls os
def allL (c : Int) (ls os : List (List UInt8)) : List (List UInt8) := if allE c ls os = 0 then doL c ls os else ls
def allO (c : Int) (ls os : List (List UInt8)) : List (List UInt8) := if allE c ls os = 0 then doO c ls os else os
theorem b93 (x : AVal) (hx : x.cells = [x] ∧ oneCell x = true ∧ isJunk x = false) : build env 93 [(0, x)] = M.pure (.agg [x]) := by
  cases x with
  | agg l => cases hx.2.1
  | tup l => cases hx.2.1
  | junk => cases hx.2.1
  | _ => rfl
theorem b95 (x y : AVal) : build env 95 [(0, .agg [x]), (1, .agg [y])] = M.pure (.agg [x, y]) := rfl
set_option maxHeartbeats 8000000 in
theorem f38 (p : Nat) (c : Int) (ls os : List (List UInt8)) (D M : Nat → Prop) (h : Hp) (n : Nat) (hs : Stk h n D M p ls os) (hl : ls.length ≤ 5000) (hol : os.length ≤ 5000) (hel : ∀ l ∈ ls, l.length ≤ 900000) (hf : Free h n) :
    Wp (callI env (evalW env) 38 [.ptr p 0, .int .u8 c]) h n fun v' h' n' => v' = .int .i64 (allE c ls os) ∧ ∃ D' M', Stk h' n' D' M' p (allL c ls os) (allO c ls os) ∧ Chg h n D M h' n' D' M' := by
  refine wp_callI ff38 fi38 ?_
  have fail_ : ∀ (e : Int) (H : Hp) (N : Nat), allE c ls os = e → e ≠ 0 → n ≤ N → Free H N → Old h H n → (AVal.int .i64 e = .int .i64 (allE c ls os) ∧ ∃ D' M', Stk H N D' M' p (allL c ls os) (allO c ls os) ∧ Chg h n D M H N D' M') := fun e H N he h0 hN hF hO => by
    have h0' : ¬ allE c ls os = 0 := by rw [he]; exact h0
    refine ⟨by rw [he], D, M, ?_, old_chg hF hN hO⟩
    unfold allL allO
    rw [if_neg h0', if_neg h0']; exact hs.old hN hO
  by_cases d1 : leastV c < 0
  · have : ¬ 0 ≤ leastV c := by omega
    have he : allE c ls os = 2 := if_pos d1
    simp only [fu38, Try.f38, Option.getD_some, List.replicate, core1, tyr, fgr, hkr, execOp, opd, opds, ofValue, putT, put, nth, forgetL, doCall, callV_func, und, bor, binOther, strK, aggK, unOp, ended, resultOf, oneOrTup, equalTop, equal, nilFn, nilPtr, boolOf, List.cons_append, List.nil_append, List.append_nil, List.length_cons, List.length_nil, Nat.reduceAdd, Nat.reduceSub, decide_false, Bool.not_false, Bool.and_true, Bool.or_true, true_and, Nat.zero_add, wp_pure, c44, this]
    exact fail_ 2 h n he (by decide) (Nat.le_refl _) hf (Old.refl _ _)
  have d1' : 0 ≤ leastV c := by omega
  obtain ⟨vl, vo, xl, xo, sv, mp, ml, mo, mn⟩ := hs
  simp only [fu38, Try.f38, Option.getD_some, List.replicate, core1, tyr, fgr, hkr, execOp, opd, opds, ofValue, putT, put, nth, forgetL, doCall, callV_func, und, sizeOf, bor, binOther, strK, aggK, unOp, nilCheck, getO, ended, resultOf, oneOrTup, moved, fieldAddr, equalTop, equal, nilFn, nilPtr, boolOf, List.getElem?_cons_zero, List.cons_append, List.nil_append, List.append_nil, List.length_cons, List.length_nil, Nat.reduceAdd, Nat.reduceSub, decide_true, Bool.not_true, Bool.and_true, Bool.or_true, Nat.zero_add, wp_pure, c44, d1']
  refine opv_same (f66 p 0 vl [vl, vo] ls.length xl h n sv.row rfl sv.l.rds) ?_
  by_cases d2 : ((ls.length : Nat) : Int) < leastV c
  · have he : allE c ls os = 120 := by unfold allE; rw [if_neg d1, if_pos d2]
    simp only [core1, fgr, hkr, execOp, opd, opds, ofValue, putT, put, nth, forgetL, doCall, callV_func, bor, binInt, shiftB, intOp, List.nil_append, List.append_nil, decide_true, true_and, c67, d2]
    exact fail_ 120 h n he (by decide) (Nat.le_refl _) hf (Old.refl _ _)
  simp only [core1, fgr, hkr, execOp, opd, opds, putT, put, nth, forgetL, doCall, callV_func, bor, binInt, shiftB, intOp, List.nil_append, List.append_nil, decide_true, decide_false, c67, d2]
  refine run_draw ⟨rfl, ?_⟩
  simp only [fe_cons, fev_pure, core1, tyr, execOp, opd, putT, put, nth, und, sizeOf, nilCheck, getO, moved, fieldAddr, List.getElem?_cons_zero, Nat.reduceAdd, Nat.zero_add]
  rw [fev_rd (Row.one (off := 0) sv.row rfl ti53 rfl)]
  simp only [fe_cons, hkr, execOp, opd, opds, putT, put, nth, doCall, callV_func, List.nil_append, List.append_nil, Nat.reduceAdd]
  have hS : ∀ j, ownId vl = some j → decide (ownId vl = some j) = true := fun j hj => decide_eq_true hj
  refine fev_in (fun j => decide (ownId vl = some j)) hf (f68 vl ls.length xl _ n (sv.l.rds.keep fun j hj => only_in (hS j hj)) (sv.l.eqNil u53).1 (fun q => ((sv.l.eqNil (E := env) u53).2 q).2.2) sv.le.cells (fun j hj => (mn j (ml j hj)).1) (by omega) hf.only) fun v3 h3 n3 r3 w3 g3 hn3 f3 ⟨l3, i3, o3⟩ a3 b3 cr3 cw3 => ?_
  have l3 : Lst h3 22 1 v3 ls.length xl := l3.keep fun j hj => a3 j (.inr (i3 j hj).1)
  have o3 : Old h h3 n := fun j hj => by
    by_cases q : ownId vl = some j
    · rw [a3 j (.inl (hS j q)), o3 j hj, only_in (hS j q)]
    · exact b3 j hj (decide_eq_false q)
  have hpn := sv.pn
  have xp : p ∉ w3 := not_in cw3 (decide_eq_false fun q => (sv.lp p q).1 rfl)
  simp only [fe_cons, execOp, opd, ops2, putT, put, nth, Nat.reduceAdd]
  rw [b93 v3 l3.rds.kind]
  simp only [fe_cons, fev_pure, core1, tyr, execOp, opd, putT, put, nth, und, sizeOf, nilCheck, getO, moved, fieldAddr, List.getElem?_cons_succ, List.getElem?_cons_zero, Nat.reduceAdd, Nat.zero_add, Nat.add_zero]
  obtain ⟨er, hrow⟩ := sv.row
  have hrow3 : h3 p = some (.row (.l [vl, vo]) er) := (o3 p sv.pn).trans hrow
  rw [fev_rd (Row.one (off := 1) ⟨er, hrow3⟩ rfl ti53 rfl)]
  simp only [fe_cons, hkr, execOp, opd, opds, putT, put, nth, doCall, callV_func, List.nil_append, List.append_nil, Nat.reduceAdd]
  have lo3 : Lst h3 22 1 vo os.length xo := sv.o.keep fun j hj => o3 j (mn j (mo j hj)).1
  refine fev_any f3 (f68 vo os.length xo h3 n3 lo3.rds (lo3.eqNil u53).1 (fun q => ((lo3.eqNil (E := env) u53).2 q).2.2) sv.oe.cells (fun j hj => by have := (mn j (mo j hj)).1; omega) (by omega) f3) fun v4 h4 n4 r4 w4 hn4 f4 ⟨l4, i4, o4⟩ => ?_
  simp only [fe_cons, execOp, opd, ops2, putT, put, nth, Nat.reduceAdd]
  rw [b93 v4 l4.rds.kind]
  simp only [fe_cons, fev_pure, execOp, opd, ops2, putT, put, nth, Nat.reduceAdd]
  rw [b95]
  simp only [fe_cons, fev_pure, execOp, opd, putT, put, nth, Nat.reduceAdd]
  refine fev_box ti95 rfl f4 fun h5 r5 w5 g5 o5 f5 => ?_
  have g5 : h5 n4 = some (.row (.l [v3, v4]) 95) := g5
  have o5n : Old h h5 n := fun j hj => by rw [o5 j (by omega), o4 j (by omega), o3 j hj]
  have hd5 : ∀ j, D j → h5 j = h j := fun j hj => o5n j (sv.dn j hj)
  have sc : Stk h5 (n4 + 1) D (fun j => j = n4 ∨ ownId v3 = some j ∨ ownId v4 = some j) n4 ls os := by
    refine ⟨v3, v4, xl, xo, ⟨⟨_, g5⟩, l3.keep fun j hj => ?_, sv.le.mono (fun _ q => q) hd5, l4.keep fun j hj => o5 j (by have := (i4 j hj).2; omega), sv.oe.mono (fun _ q => q) hd5, by omega, fun j hj => by have := sv.dn j hj; omega, fun q => by have := sv.dn _ q; omega, fun j hj => ?_, fun j hj => ?_⟩, .inl rfl, fun j hj => .inr (.inl hj), fun j hj => .inr (.inr hj), fun j hj => ?_⟩
    · have := (i3 j hj).2; rw [o5 j (by omega), o4 j (by omega)]
    · exact ⟨fun q => by have := (i3 j hj).2; omega, fun q => by have := (i3 j hj).1; have := sv.dn j q; omega⟩
    · exact ⟨fun q => by have := (i4 j hj).2; omega, fun q => by have := (i4 j hj).1; have := sv.dn j q; omega, fun q => by have := (i3 j q).2; have := (i4 j hj).1; omega⟩
    · rcases hj with q | q | q
      · subst q; exact ⟨by omega, fun q => by have := sv.dn _ q; omega⟩
      · exact ⟨by have := (i3 j q).2; omega, fun e => by have := (i3 j q).1; have := sv.dn j e; omega⟩
      · exact ⟨by have := (i4 j q).2; omega, fun e => by have := (i4 j q).1; have := sv.dn j e; omega⟩
  have mc : ∀ j, (j = n4 ∨ ownId v3 = some j ∨ ownId v4 = some j) → n ≤ j := fun j hj => by
    rcases hj with q | q | q
    · omega
    · exact (i3 j q).1
    · have := (i4 j q).1; omega
  simp only [fe_nil, fe_cons, fev_pure, core1, fgr, hkr, execOp, opd, opds, putT, put, nth, forgetL, doCall, callV_func, List.nil_append, List.append_nil, Nat.reduceAdd]
  refine ⟨(by (try simp (disch := first | assumption | omega) only [fine, List.all_cons, List.all_nil, clash_pl, clash_pr, clash_rr, Bool.not_false, Bool.true_or, Bool.and_true, Bool.true_and, clash_xs, clash_sx]); repeat' (first | rfl | exact (Bool.or_eq_true _ _).mpr (.inr rfl) | refine (Bool.and_eq_true _ _).mpr ⟨?_, ?_⟩)), ?_⟩
  refine opv_callf f5 (f69 n4 c ls os D _ h5 (n4 + 1) sc hl hol hel d1' (by omega) f5) fun v6 h6 n6 hn6 f6 ⟨e6, D', M', ch6, s6⟩ => ?_
  subst e6
  have o6 : Old h h6 n := fun j hj => by rw [ch6.old j (by omega) (fun q => by have := mc j q; omega)]; exact o5n j hj
  by_cases hE : doE c ls os = 0
  case neg =>
    have he : allE c ls os = doE c ls os := by unfold allE; rw [if_neg d1, if_neg (by omega), if_neg hE]
    simp only [core1, fgr, execOp, opd, ofValue, putT, put, nth, forgetL, bor, binInt, shiftB, intOp, int_bne, not_false_eq_true, decide_true, true_and, hE]
    exact fail_ _ h6 n6 he hE (by omega) f6 o6
  have s6 := s6 hE
  have bl : (doL c ls os).length + (doO c ls os).length ≤ 1000000 := by
    have b1 : (doL c ls os).length ≤ ls.length + 6 := by
      unfold doL
      cases hfm : frm c with
      | some x =>
        have := frm_ok hfm
        simp only [List.length_append, List.length_take, pickL, List.length_map]
        omega
      | none =>
        have p1 := popL_len ls
        simp only
        repeat' split
        all_goals (try simp only [List.length_append, List.length_singleton, p1])
        all_goals (try omega)
        unfold farL
        have p2 := popL_len ls
        split <;> simp only [List.length_append, List.length_singleton, outI, List.length_take, List.length_drop] <;> omega
    have b2 : (doO c ls os).length ≤ os.length + 1 := by
      unfold doO
      have p1 := popL_len os
      split
      · omega
      · repeat' split
        all_goals (try simp only [List.length_append, List.length_singleton, p1])
        all_goals omega
    omega
  simp only [core1, fgr, hkr, execOp, opd, opds, ofValue, putT, put, nth, forgetL, doCall, callV_func, bor, binInt, shiftB, intOp, List.nil_append, List.append_nil, decide_true, bne_self_eq_false, hE]
  refine opv_callf f6 (f65 n4 _ _ D' M' h6 n6 s6 bl f6) fun v7 h7 n7 hn7 f7 ⟨e7, o7⟩ => ?_
  subst e7
  have o7n : Old h h7 n := fun j hj => (o7 j (by omega)).trans (o6 j hj)
  by_cases hm : (doL c ls os).length + (doO c ls os).length ≤ 100
  case neg =>
    have he : allE c ls os = 121 := by unfold allE; rw [if_neg d1, if_neg (by omega), if_pos hE, if_neg hm]
    have hc : 100 < (((doL c ls os).length + (doO c ls os).length : Nat) : Int) := by omega
    simp only [core1, fgr, execOp, opd, ofValue, putT, put, nth, forgetL, bor, binInt, shiftB, intOp, gt_iff_lt, decide_true, true_and, hc]
    exact fail_ 121 h7 n7 he (by decide) (by omega) f7 o7n
  have he : allE c ls os = 0 := by unfold allE; rw [if_neg d1, if_neg (by omega), if_pos hE, if_pos hm]
  have hc : ¬ 100 < (((doL c ls os).length + (doO c ls os).length : Nat) : Int) := by omega
  have s7 := s6.old hn7 o7
  obtain ⟨wl, wo, zl, zo, tv, tp, tl, to_, tn⟩ := s7
  obtain ⟨ec, hrc⟩ := tv.row
  have hrow7 : h7 p = some (.row (.l [vl, vo]) er) := (o7n p sv.pn).trans hrow
  simp only [core1, fgr, execOp, opd, ofValue, putT, put, nth, forgetL, bor, binInt, shiftB, intOp, nilCheck, gt_iff_lt, decide_true, decide_false, hc]
  rw [opv_rd (Row.whole (id := n4) ⟨ec, hrc⟩ ti95 rfl rfl)]
  simp only [core1, execOp, opd, putT, put, nth, nilCheck]
  have kl := tv.l.rds.kind
  have ko := tv.o.rds.kind
  rw [opv_wr (Row.write (v := .agg [wl, wo]) hrow7 ti95 rfl (by show 0 + 2 ≤ 2; omega) (by show [wl, wo].all oneCell = true; simp [kl.2.1, ko.2.1]))]
  rw [show splice [vl, vo] 0 (AVal.agg [wl, wo]).cells = [wl, wo] from rfl]
  simp only [core1, fgr, execOp, opd, ofValue, putT, put, nth, forgetL, true_and]
  have hM'n : ∀ j, M' j → n ≤ j := fun j hj => (ch6.m' j hj).elim (mc j) (fun q => by omega)
  have hpD : ¬ D' p := fun q => (ch6.d' p q).elim sv.pd (fun q => by have := sv.pn; omega)
  have hpl : ∀ j, ownId wl = some j → j ≠ p := fun j hj e => by have := hM'n j (tl j hj); have := sv.pn; omega
  have hpo : ∀ j, ownId wo = some j → j ≠ p := fun j hj e => by have := hM'n j (to_ j hj); have := sv.pn; omega
  have hpd : ∀ j, D' j → j ≠ p := fun j hj e => hpD (by rw [← e]; exact hj)
  refine ⟨by rw [he], D', fun j => j = p ∨ ownId wl = some j ∨ ownId wo = some j, ?_, ⟨by have := ch6.nx; omega, f7.upd (by have := sv.pn; have := ch6.nx; omega), ch6.d, fun j hj => (ch6.d' j hj).elim .inl (fun q => .inr (by omega)), fun j hj => ?_, fun j hj hne => ?_⟩⟩
  · unfold allL allO
    rw [if_pos he, if_pos he]
    refine ⟨wl, wo, zl, zo, ⟨⟨er, upd_same _ _ _⟩, tv.l.keep fun j hj => upd_ne _ _ (hpl j hj), tv.le.mono (fun _ q => q) (fun j hj => upd_ne _ _ (hpd j hj)), tv.o.keep fun j hj => upd_ne _ _ (hpo j hj), tv.oe.mono (fun _ q => q) (fun j hj => upd_ne _ _ (hpd j hj)), by have := sv.pn; have := ch6.nx; omega, tv.dn, hpD, fun j hj => ⟨hpl j hj, (tv.lp j hj).2⟩, fun j hj => ⟨hpo j hj, (tv.op j hj).2.1, (tv.op j hj).2.2⟩⟩, .inl rfl, fun j hj => .inr (.inl hj), fun j hj => .inr (.inr hj), fun j hj => ?_⟩
    rcases hj with q | q | q
    · subst q; exact ⟨by have := sv.pn; have := ch6.nx; omega, hpD⟩
    · exact ⟨(tn j (tl j q)).1, (tn j (tl j q)).2⟩
    · exact ⟨(tn j (to_ j q)).1, (tn j (to_ j q)).2⟩
  · rcases hj with q | q | q
    · rw [q]; exact .inl mp
    · exact .inr (hM'n j (tl j q))
    · exact .inr (hM'n j (to_ j q))
  · rw [upd_ne _ _ (fun q => hne (by rw [q]; exact mp))]; exact o7n j hj
/- A new stack; its elements, in memory of their own. -/
def longB (l : List UInt8) : Bool := decide (520 < l.length)
def newE (ls : List (List UInt8)) : Int := if ls.any longB = true then 120 else if 100 < ls.length then 121 else 0
/-- A stack in new memory. -/
def StkN (h : Hp) (n : Nat) (N : Nat) (p : Nat) (ls os : List (List UInt8)) : Prop := ∃ D M, Stk h n D M p ls os ∧ (∀ j, D j → N ≤ j) ∧ (∀ j, M j → N ≤ j)
theorem StkN.old {h h' : Hp} {n n' N : Nat} {p : Nat} {ls os : List (List UInt8)} (s : StkN h n N p ls os) (hn : n ≤ n') (ho : ∀ j, N ≤ j → j < n → h' j = h j) : StkN h' n' N p ls os := by
  obtain ⟨D, M, s, hd, hm⟩ := s
  exact ⟨D, M, s.beside hn (fun j hj q => ho j (q.elim (hd j) (hm j)) hj), hd, hm⟩
theorem StkN.less {h : Hp} {n N N' : Nat} {p : Nat} {ls os : List (List UInt8)} (s : StkN h n N p ls os) (hn : N' ≤ N) : StkN h n N' p ls os := by
  obtain ⟨D, M, s, hd, hm⟩ := s
  exact ⟨D, M, s, fun j hj => by have := hd j hj; omega, fun j hj => by have := hm j hj; omega⟩
theorem b95z : build env 95 [] = M.pure (.agg [.nils, .nils]) := rfl
theorem any_succ {ls : List (List UInt8)} {i : Nat} (hi : i < ls.length) (h : (ls.take i).any longB = false) (hl : ¬ 520 < ls[i].length) : (ls.take (i + 1)).any longB = false := by
  rw [List.take_add_one, List.getElem?_eq_getElem hi, Option.toList_some, List.any_append, h]
  simp [longB, hl]
set_option maxHeartbeats 4000000 in
theorem loop37 (Q : Post0) (ks : List Kf) (p n0 : Nat) (v : AVal) (xs : List AVal) (ls : List (List UInt8)) (D0 : Nat → Prop) (h0 : Hp) (hlen : ls.length ≤ 5000) (hv : Rds h0 1 v ls.length xs) (hvn : ∀ j, ownId v = some j → j < n0) (hel : Els h0 D0 xs ls) (hd0 : ∀ j, D0 j → j < n0)
    (hq : ∀ (h : Hp) n (x6 x11 x12 x17 x28 : AVal), ls.any longB = false → StkN h n n0 p ls [] → Old h0 h n0 → n0 ≤ n → Free h n → Kont env 37 none Q ks (.exit 0) (v :: AVal.junk :: .nilp :: .int .i64 0 :: .ptr p 0 :: AVal.junk :: x6 :: AVal.junk :: AVal.junk :: v :: .int .i64 (ls.length : Nat) :: x11 :: x12 :: AVal.junk :: AVal.junk :: AVal.junk :: AVal.junk :: x17 :: AVal.junk :: AVal.junk :: AVal.junk :: AVal.junk :: AVal.junk :: AVal.junk :: AVal.junk :: AVal.junk :: AVal.junk :: AVal.junk :: x28 :: AVal.junk :: []) h n)
    (hr : ∀ (h : Hp) n (x6 x11 x12 x17 x28 : AVal), ls.any longB = true → Old h0 h n0 → n0 ≤ n → Free h n → Kont env 37 none Q ks .ret (v :: AVal.junk :: .nilp :: .int .i64 120 :: .ptr p 0 :: AVal.junk :: x6 :: AVal.junk :: AVal.junk :: v :: .int .i64 (ls.length : Nat) :: x11 :: x12 :: AVal.junk :: AVal.junk :: AVal.junk :: AVal.junk :: x17 :: AVal.junk :: AVal.junk :: AVal.junk :: AVal.junk :: AVal.junk :: AVal.junk :: AVal.junk :: AVal.junk :: AVal.junk :: AVal.junk :: x28 :: AVal.junk :: []) h n) :
    ∀ (m i : Nat) (h : Hp) (n : Nat) (x6 x12 x17 x28 : AVal), i + m = ls.length → (ls.take i).any longB = false → StkN h n n0 p (ls.take i) [] → Old h0 h n0 → n0 ≤ n → Free h n →
    Run env 37 none Q (.loop lp37_0) ks (v :: AVal.junk :: .nilp :: .int .i64 0 :: .ptr p 0 :: AVal.junk :: x6 :: AVal.junk :: AVal.junk :: v :: .int .i64 (ls.length : Nat) :: .int .i64 (i : Nat) :: x12 :: AVal.junk :: AVal.junk :: AVal.junk :: AVal.junk :: x17 :: AVal.junk :: AVal.junk :: AVal.junk :: AVal.junk :: AVal.junk :: AVal.junk :: AVal.junk :: AVal.junk :: AVal.junk :: AVal.junk :: x28 :: AVal.junk :: []) h n := by
  intro m
  induction m with
  | zero =>
    intro i h n x6 x12 x17 x28 hi hs st old hn hf
    have : i = ls.length := by omega
    subst this
    have hc : ¬ ((ls.length : Nat) : Int) < ((ls.length : Nat) : Int) := by omega
    rw [run_loop]
    simp only [lp37_0, loopsOf, Try.f37, Option.getD_some, core1, fgr, execOp, opd, putT, put, nth, forgetL, bor, binInt, shiftB, intOp, List.nil_append, List.append_nil, decide_true, decide_false, List.getD_cons_zero, hc]
    rw [List.take_length] at hs st
    exact hq h n _ _ _ _ _ hs st old hn hf
  | succ m ih =>
    intro i h n x6 x12 x17 x28 hi hs st old hn hf
    have hil : i < ls.length := by omega
    have hc : ((i : Nat) : Int) < ((ls.length : Nat) : Int) := by omega
    have hw : IntKind.i64.wrap (((i : Nat) : Int) + 1) = ((i + 1 : Nat) : Int) := by rw [w64 (by omega) (by omega)]; omega
    obtain ⟨x, hx1, hx2⟩ := hel.get hil
    have hvh : Rds h 1 v ls.length xs := hv.keep fun j hj => old j (hvn j hj)
    have hbx : Bytes h x ls[i] := hx2.1.keep fun j hj => old j (hd0 j (hx2.2 j hj))
    rw [run_loop]
    simp only [lp37_0, loopsOf, Try.f37, Option.getD_some, core1, fgr, execOp, opd, putT, put, nth, forgetL, bor, binInt, shiftB, intOp, List.nil_append, List.append_nil, decide_true, List.getD_cons_zero, hc]
    rw [opv_rd (hvh.idx (j := i) u53 s22 rfl hil)]
    simp only [core1, execOp, opd, putT, put, nth, Nat.mul_one]
    rw [opv_rd (hvh.load (k := i) ti22 rfl hx1)]
    by_cases hlong : 520 < ls[i].length
    · have hc2 : 520 < ((ls[i].length : Nat) : Int) := by omega
      simp only [core1, fgr, execOp, opd, opds, ofValue, putT, put, nth, forgetL, doCall, builtin, one1, bor, binInt, shiftB, intOp, gt_iff_lt, decide_true, hbx.bLen t22, hc2]
      refine hr h n _ _ _ _ _ ?_ old hn hf
      rw [List.any_eq_true]
      exact ⟨ls[i], List.getElem_mem hil, decide_eq_true hlong⟩
    have hc2 : ¬ 520 < ((ls[i].length : Nat) : Int) := by omega
    simp only [core1, fgr, execOp, opd, opds, ofValue, putT, put, nth, forgetL, doCall, builtin, one1, bor, binInt, shiftB, intOp, gt_iff_lt, decide_true, decide_false, hbx.bLen t22, hc2]
    refine run_draw ⟨rfl, ?_⟩
    simp only [fe_cons, fev_pure, core1, tyr, hkr, execOp, opd, opds, putT, put, nth, doCall, callV_func, und, sizeOf, nilCheck, getO, moved, fieldAddr, List.getElem?_cons_zero, List.nil_append, List.append_nil, Nat.reduceAdd, Nat.zero_add]
    refine fev_any hf (f64 x ls[i] h n hbx (by omega) hf) fun v1 h1 n1 r1 w1 hn1 f1 ⟨b1, i1, o1⟩ => ?_
    simp only [fe_cons, execOp, opd, ops2, putT, put, nth, Nat.reduceAdd]
    rw [bs22 v1 b1.kind]
    refine fev_row ti22 f1 fun h2 r2 w2 g2 o2 f2 => ?_
    have o2' : Old h h2 n := fun j hj => by rw [o2 j (by omega), o1 j hj]
    obtain ⟨D, M, s, hd, hm⟩ := st
    have s2 := s.old (n' := n1 + 1) (by omega) o2'
    simp only [fe_cons, hkr, execOp, opd, opds, putT, put, nth, doCall, callV_func, List.nil_append, List.append_nil, Nat.reduceAdd]
    refine fev_any f2 (put0 p 1 _ [v1] [ls[i]] _ [] D M (fun j => ownId v1 = some j) h2 (n1 + 1) s2 (row_rds g2 rfl) (Els.one ⟨b1.keep fun j hj => o2 j (by have := (i1 j hj).2; omega), fun j hj => hj⟩) (fun j hj => ⟨by have := (i1 j hj).2; omega, fun q => by have := (i1 j hj).1; have := (s.m j q).1; omega⟩) (by rw [List.length_take]; omega) f2) fun v3 h3 n3 r3 w3 hn3 f3 ⟨e3, M', s3, c3⟩ => ?_
    subst e3
    simp only [fe_nil, core1, fgr, execOp, opd, ofValue, putT, put, nth, forgetL, bor, binInt, shiftB, intOp, wrapI, Nat.reduceAdd, decide_true]
    refine ⟨(by (try simp (disch := first | assumption | omega) only [fine, List.all_cons, List.all_nil, clash_pl, clash_pr, Bool.not_false, Bool.true_or, Bool.and_true]); repeat' (first | rfl | exact (Bool.or_eq_true _ _).mpr (.inr rfl) | refine (Bool.and_eq_true _ _).mpr ⟨?_, ?_⟩)), ?_⟩
    simp only [hw]
    refine ih (i + 1) h3 n3 _ _ _ _ (by omega) (any_succ hil hs hlong) ⟨fun j => D j ∨ ownId v1 = some j, M', ?_, fun j hj => hj.elim (hd j) (fun q => by have := (i1 j q).1; omega), fun j hj => (c3.m' j hj).elim (hm j) (fun q => by omega)⟩ (fun j hj => by rw [c3.old j (by omega) (fun q => by have := hm j q; omega), o2' j (by omega), old j hj]) (by omega) f3
    rw [List.take_add_one, List.getElem?_eq_getElem hil, Option.toList_some]
    exact s3
theorem f37 (v : AVal) (xs : List AVal) (ls : List (List UInt8)) (D0 : Nat → Prop) (h : Hp) (n : Nat) (hlen : ls.length ≤ 5000) (hv : Rds h 1 v ls.length xs) (hvn : ∀ j, ownId v = some j → j < n) (hel : Els h D0 xs ls) (hd0 : ∀ j, D0 j → j < n) (hf : Free h n) :
    Wp (callI env (evalW env) 37 [v]) h n fun v' h' n' => Old h h' n ∧ ((newE ls ≠ 0 ∧ v' = .tup [.nilp, .int .i64 (newE ls)]) ∨ (newE ls = 0 ∧ ∃ p, v' = .tup [.ptr p 0, .int .i64 0] ∧ StkN h' n' n p ls [])) := by
  refine wp_callI ff37 fi37 ?_
  simp only [fu37, Try.f37, Option.getD_some, List.replicate, core1, fgr, execOp, opd, ofValue, ops2, putT, put, nth, forgetL, ended, resultOf, oneOrTup, List.cons_append, List.nil_append, List.length_cons, List.length_nil, Nat.reduceSub, Nat.zero_add, wp_pure, b95z]
  refine opv_box (v := .agg [.nils, .nils]) ti95 rfl hf fun h1 p1 o1 f1 => ?_
  obtain ⟨e1, p1⟩ := p1
  have p1 : h1 n = some (.row (.l [.nils, .nils]) e1) := p1
  have o1' : Old h h1 n := fun j hj => o1 j (by omega)
  have hv1 : Rds h1 1 v ls.length xs := hv.keep fun j hj => o1' j (hvn j hj)
  simp only [core1, fgr, execOp, opd, opds, ofValue, putT, put, nth, forgetL, doCall, builtin, one1, hv1.bLen u53]
  have st : StkN h1 (n + 1) n n [] [] := ⟨fun _ => False, fun j => j = n, ⟨.nils, .nils, [], [], ⟨⟨_, p1⟩, .nil, Els.nil _ _, .nil, Els.nil _ _, by omega, fun j hj => hj.elim, fun q => q, fun j hj => (by cases hj), fun j hj => (by cases hj)⟩, rfl, fun j hj => (by cases hj), fun j hj => (by cases hj), fun j hj => ⟨by omega, fun q => q⟩⟩, fun j hj => hj.elim, fun j hj => by omega⟩
  refine loop37 _ _ n n v xs ls D0 h hlen hv hvn hel hd0 ?_ ?_ ls.length 0 h1 (n + 1) _ _ _ _ (by omega) rfl st o1' (by omega) f1
  · intro h2 n2 x6 x11 x12 x17 x28 ha st2 old2 hn2 f2
    obtain ⟨D, M, s2, hd, hm⟩ := st2
    simp only [core1, hkr, execOp, opd, opds, putT, put, nth, doCall, callV_func, List.nil_append, List.append_nil]
    refine opv_callf f2 (f65 n ls [] D M h2 n2 s2 (by simp; omega) f2) fun v3 h3 n3 hn3 f3 ⟨e3, o3⟩ => ?_
    subst e3
    have old3 : Old h h3 n := fun j hj => (o3 j (by omega)).trans (old2 j hj)
    by_cases hm2 : 100 < ls.length
    · have he : newE ls = 121 := by unfold newE; rw [if_neg (by rw [ha]; decide), if_pos hm2]
      have hc : 100 < ((ls.length : Nat) : Int) := by omega
      simp only [core1, fgr, execOp, opd, ofValue, putT, put, nth, forgetL, bor, binInt, shiftB, intOp, List.length_nil, gt_iff_lt, decide_true, true_and, Nat.add_zero, hc]
      exact ⟨old3, .inl ⟨by rw [he]; decide, by rw [he]⟩⟩
    · have he : newE ls = 0 := by unfold newE; rw [if_neg (by rw [ha]; decide), if_neg hm2]
      have hc : ¬ 100 < ((ls.length : Nat) : Int) := by omega
      simp only [core1, fgr, execOp, opd, ofValue, putT, put, nth, forgetL, bor, binInt, shiftB, intOp, List.length_nil, gt_iff_lt, decide_true, decide_false, true_and, Nat.add_zero, hc]
      exact ⟨old3, .inr ⟨he, n, rfl, D, M, s2.old hn3 o3, hd, hm⟩⟩
  · intro h2 n2 x6 x11 x12 x17 x28 ha old2 hn2 f2
    have he : newE ls = 120 := if_pos ha
    simp only [core1, nth, true_and]
    exact ⟨old2, .inl ⟨by rw [he]; decide, by rw [he]⟩⟩
/- All elements, in memory of their own; whether two lists are the same. -/
theorem f64r (v : AVal) (l : List UInt8) (h : Hp) (n : Nat) (hb : Bytes h v l) (hl : l.length ≤ 1000000) (hf : Free h n) : Wp (callI env (evalW env) 64 [v]) h n fun v' h' n' => Lst h' 5 1 v' l.length (l.map u8) ∧ (∀ j, ownId v' = some j → n ≤ j ∧ j < n') ∧ Old h h' n := by
  refine wp_callI ff64 fi64 ?_
  simp only [fu64, Try.f64, Option.getD_some, List.replicate, core1, fgr, execOp, opd, ofValue, putT, put, nth, forgetL, ended, resultOf, oneOrTup, List.cons_append, List.nil_append, List.length_cons, List.length_nil, Nat.reduceSub, Nat.zero_add, wp_pure, hb.eqNil t22]
  cases hnil : isNils v with
  | true =>
    simp only [core1, fgr, execOp, opd, ofValue, putT, put, nth, forgetL, true_and]
    have := hb.nil.2 hnil
    subst this
    exact ⟨.nil, (fun j hj => by cases hj), Old.refl _ _⟩
  | false =>
    simp only [core1, tyr, execOp, opd, opds, ops2, putT, put, nth, doCall, builtin, two2, und, newRow, getO, Nat.zero_mul, buildSlice, reps, fill, Nat.ble, Nat.zero_mul]
    refine opv_lst_append (i := ⟨.int .u8, 1, 1, .int .u8 0⟩) (e := 5) (cnt := 0) (xs := []) (lst_new (upd_same _ _ _) rfl (fun k hk => by injection hk with hk; exact hk.symm)) ((hb.keep fun j hj => ?_).rds) t22 t22 ti5 (u8_one l) (by decide) (by show 2 * (0 + l.length) * 1 ≤ _; omega) (by omega) hf.new ?_
    · rw [upd_ne]
      intro e
      cases hb with
      | nils => cases hj
      | isl => cases hj
      | sl id off cap c e2 l hh hs hc => injection hj with hj; subst hj; subst e; rw [hf _ (Nat.le_refl _)] at hh; cases hh
    · intro v' h' n' hn hf' ho hid hold
      simp only [core1, fgr, execOp, opd, putT, put, nth, forgetL, true_and]
      rw [List.nil_append, Nat.zero_add] at ho
      refine ⟨ho, fun j hj => ?_, fun j hj => ?_⟩
      · rcases hid with q | ⟨q, q2⟩
        · rw [q] at hj; injection hj with hj; subst hj; exact ⟨Nat.le_refl _, by omega⟩
        · rw [q] at hj; injection hj with hj; omega
      · rw [hold j (by omega) (fun e => by injection e with e; omega), upd_ne _ _ (by omega)]
theorem lst_bytes {h : Hp} {v : AVal} {cnt : Nat} {l : List UInt8} (hl : Lst h 5 1 v cnt (l.map u8)) : Bytes h v l := hl.rds.bytes (by intro e; subst e; cases hl)
/-- Elements, each in a block that may be written. -/
def Wr8 (h : Hp) (xs : List AVal) : Prop := ∀ (j : Nat) x, xs[j]? = some x → ∃ l : List UInt8, Lst h 5 1 x l.length (l.map u8)
def TwinP (h : Hp) (n : Nat) (ls : List (List UInt8)) (v' : AVal) (h' : Hp) (n' : Nat) : Prop :=
  ∃ ys D, Lst h' 22 1 v' ls.length ys ∧ Els h' D ys ls ∧ Wr8 h' ys ∧ (∀ j, D j → n ≤ j ∧ j < n') ∧ (∀ j, ownId v' = some j → n ≤ j ∧ j < n' ∧ ¬ D j) ∧ Old h h' n
set_option maxHeartbeats 4000000 in
theorem loop70 (Q : Post0) (ks : List Kf) (n0 : Nat) (v : AVal) (xs : List AVal) (ls : List (List UInt8)) (D0 : Nat → Prop) (h0 : Hp) (hlen : ls.length ≤ 5000) (hv : Rds h0 1 v ls.length xs) (hvn : ∀ j, ownId v = some j → j < n0) (hel : Els h0 D0 xs ls) (hd0 : ∀ j, D0 j → j < n0) (hll : ∀ l ∈ ls, l.length ≤ 1000000)
    (hq : ∀ (h : Hp) n v3 (x5 x8 x9 : AVal), TwinP h0 n0 ls v3 h n → n0 ≤ n → Free h n → Kont env 70 none Q ks (.exit 0) (v :: AVal.junk :: .nils :: v3 :: AVal.junk :: x5 :: v :: .int .i64 (ls.length : Nat) :: x8 :: x9 :: AVal.junk :: AVal.junk :: AVal.junk :: AVal.junk :: AVal.junk :: AVal.junk :: AVal.junk :: AVal.junk :: AVal.junk :: []) h n) :
    ∀ (m i : Nat) (h : Hp) (n : Nat) (v3 : AVal) (x5 x9 : AVal), i + m = ls.length → TwinP h0 n0 (ls.take i) v3 h n → n0 ≤ n → Free h n →
    Run env 70 none Q (.loop lp70_0) ks (v :: AVal.junk :: .nils :: v3 :: AVal.junk :: x5 :: v :: .int .i64 (ls.length : Nat) :: .int .i64 (i : Nat) :: x9 :: AVal.junk :: AVal.junk :: AVal.junk :: AVal.junk :: AVal.junk :: AVal.junk :: AVal.junk :: AVal.junk :: AVal.junk :: []) h n := by
  intro m
  induction m with
  | zero =>
    intro i h n v3 x5 x9 hi ht hn hf
    have : i = ls.length := by omega
    subst this
    have hc : ¬ ((ls.length : Nat) : Int) < ((ls.length : Nat) : Int) := by omega
    rw [run_loop]
    simp only [lp70_0, loopsOf, Try.f70, Option.getD_some, core1, fgr, execOp, opd, putT, put, nth, forgetL, bor, binInt, shiftB, intOp, List.nil_append, List.append_nil, decide_true, decide_false, List.getD_cons_zero, hc]
    rw [List.take_length] at ht
    exact hq h n v3 _ _ _ ht hn hf
  | succ m ih =>
    intro i h n v3 x5 x9 hi ht hn hf
    obtain ⟨ys, D, l3, el, wr, hd, hid, old⟩ := ht
    have hil : i < ls.length := by omega
    have hc : ((i : Nat) : Int) < ((ls.length : Nat) : Int) := by omega
    have hw : IntKind.i64.wrap (((i : Nat) : Int) + 1) = ((i + 1 : Nat) : Int) := by rw [w64 (by omega) (by omega)]; omega
    obtain ⟨x, hx1, hx2⟩ := hel.get hil
    have hvh : Rds h 1 v ls.length xs := hv.keep fun j hj => old j (hvn j hj)
    have hbx : Bytes h x ls[i] := hx2.1.keep fun j hj => old j (hd0 j (hx2.2 j hj))
    rw [run_loop]
    simp only [lp70_0, loopsOf, Try.f70, Option.getD_some, core1, fgr, execOp, opd, putT, put, nth, forgetL, bor, binInt, shiftB, intOp, List.nil_append, List.append_nil, decide_true, List.getD_cons_zero, hc]
    rw [opv_rd (hvh.idx (j := i) u53 s22 rfl hil)]
    simp only [core1, execOp, opd, putT, put, nth, Nat.mul_one]
    rw [opv_rd (hvh.load (k := i) ti22 rfl hx1)]
    simp only [core1, fgr, hkr, execOp, opd, opds, putT, put, nth, forgetL, doCall, callV_func, List.nil_append, List.append_nil]
    refine opv_callf hf (f64r x ls[i] h n hbx (hll _ (List.getElem_mem hil)) hf) fun v1 h1 n1 hn1 f1 ⟨b1, i1, o1⟩ => ?_
    simp only [core1, execOp, opd, ops2, putT, put, nth]
    rw [bs22 v1 b1.rds.kind]
    refine opv_row ti22 f1 fun h2 g2 o2 f2 => ?_
    have o2' : Old h h2 n := fun j hj => by rw [o2 j (by omega), o1 j hj]
    have l32 : Lst h2 22 1 v3 (ls.take i).length ys := l3.keep fun j hj => o2' j (hid j hj).2.1
    simp only [core1, execOp, opd, opds, putT, put, nth, doCall, builtin, two2]
    refine opv_lst_append (i := ⟨.slice 5, 1, 24, .nils⟩) (e := 22) (k := 1) (ys := [v1]) l32 (row_rds g2 rfl) u53 u53 ti22 (by simp [b1.rds.kind.2.1]) (by decide) (by show 2 * ((ls.take i).length + 1) * 24 ≤ _; rw [List.length_take]; omega) (by rw [List.length_take]; omega) f2 ?_
    intro v4 h4 n4 hn4 f4 l4 i4 o4
    simp only [core1, fgr, execOp, opd, ofValue, putT, put, nth, forgetL, bor, binInt, shiftB, intOp, wrapI, decide_true, hw]
    have b4 : Lst h4 5 1 v1 ls[i].length (ls[i].map u8) := b1.keep fun j hj => by
      have := i1 j hj
      rw [o4 j (by omega) (fun q => by have := hid j q; omega), o2 j (by omega)]
    have hd4 : ∀ j, D j → h4 j = h j := fun j hj => by
      have := hd j hj
      rw [o4 j (by omega) (fun q => (hid j q).2.2 hj), o2' j (by omega)]
    refine ih (i + 1) h4 n4 v4 _ _ (by omega) ⟨ys ++ [v1], fun j => D j ∨ ownId v1 = some j, ?_, ?_, ?_, ?_, ?_, ?_⟩ (by omega) f4
    · rw [show (ls.take (i + 1)).length = (ls.take i).length + 1 by rw [List.length_take, List.length_take]; omega]
      exact l4
    · rw [List.take_add_one, List.getElem?_eq_getElem hil, Option.toList_some]
      exact (el.mono (fun j q => .inl q) hd4).app (Els.one ⟨lst_bytes b4, fun j q => .inr q⟩)
    · intro j y hy
      by_cases c : j < ys.length
      · rw [List.getElem?_append_left c] at hy
        obtain ⟨l, hl⟩ := wr j y hy
        refine ⟨l, hl.keep fun k hk => hd4 k ?_⟩
        have := el.at_ j y _ hy (List.getElem?_eq_getElem (by rw [← el.len]; exact c))
        exact this.2 k hk
      · rw [List.getElem?_append_right (by omega)] at hy
        cases hjl : j - ys.length with
        | zero => rw [hjl] at hy; simp at hy; subst hy; exact ⟨_, b4⟩
        | succ k => rw [hjl] at hy; simp at hy
    · intro j hj
      rcases hj with q | q
      · have := hd j q; omega
      · have := i1 j q; omega
    · intro j hj
      rcases i4 with q | ⟨q, q2⟩
      · rw [q] at hj
        have := hid j hj
        exact ⟨this.1, by omega, fun w => w.elim this.2.2 (fun w => by have := i1 j w; omega)⟩
      · rw [q] at hj; injection hj with hj; subst hj
        exact ⟨by omega, by omega, fun w => w.elim (fun w => by have := hd _ w; omega) (fun w => by have := i1 _ w; omega)⟩
    · intro j hj
      rw [o4 j (by omega) (fun q => by have := (hid j q).1; omega), o2' j (by omega), old j hj]
theorem f70 (v : AVal) (xs : List AVal) (ls : List (List UInt8)) (D0 : Nat → Prop) (h : Hp) (n : Nat) (hlen : ls.length ≤ 5000) (hv : Rds h 1 v ls.length xs) (hvn : ∀ j, ownId v = some j → j < n) (hel : Els h D0 xs ls) (hd0 : ∀ j, D0 j → j < n) (hll : ∀ l ∈ ls, l.length ≤ 1000000) (hf : Free h n) :
    Wp (callI env (evalW env) 70 [v]) h n (TwinP h n ls) := by
  refine wp_callI ff70 fi70 ?_
  simp only [fu70, Try.f70, Option.getD_some, List.replicate, core1, fgr, execOp, opd, opds, ofValue, putT, put, nth, forgetL, doCall, builtin, one1, ended, resultOf, oneOrTup, List.cons_append, List.nil_append, List.length_cons, List.length_nil, Nat.reduceSub, Nat.zero_add, wp_pure, hv.bLen u53]
  refine loop70 _ _ n v xs ls D0 h hlen hv hvn hel hd0 hll ?_ ls.length 0 h n .nils _ _ (by omega) ⟨[], fun _ => False, .nil, Els.nil _ _, fun j x hx => by simp at hx, fun j hj => hj.elim, fun j hj => (by cases hj), Old.refl _ _⟩ (Nat.le_refl _) hf
  intro h1 n1 v3 x5 x8 x9 ht hn hf1
  simp only [core1, fgr, execOp, opd, putT, put, nth, forgetL, true_and]
  exact ht
theorem f40 (p : Nat) (ls os : List (List UInt8)) (D M : Nat → Prop) (h : Hp) (n : Nat) (hs : Stk h n D M p ls os) (hlen : ls.length ≤ 5000) (hll : ∀ l ∈ ls, l.length ≤ 1000000) (hf : Free h n) : Wp (callI env (evalW env) 40 [.ptr p 0]) h n (TwinP h n ls) := by
  obtain ⟨vl, vo, xl, xo, sv, mp, ml, mo, mn⟩ := hs
  refine wp_callI ff40 fi40 ?_
  simp only [fu40, Try.f40, Option.getD_some, List.replicate, core1, tyr, fgr, execOp, opd, ofValue, putT, put, nth, forgetL, und, sizeOf, bor, binOther, strK, aggK, nilCheck, getO, ended, resultOf, oneOrTup, moved, fieldAddr, equalTop, equal, nilFn, nilPtr, boolOf, List.getElem?_cons_zero, List.cons_append, List.nil_append, List.length_cons, List.length_nil, Nat.reduceSub, Bool.and_true, Bool.or_true, Nat.zero_add, wp_pure]
  rw [opv_rd (Row.one (off := 0) sv.row rfl ti53 rfl)]
  simp only [core1, hkr, execOp, opd, opds, putT, put, nth, doCall, callV_func, List.nil_append, List.append_nil]
  refine opv_call (f70 vl xl ls D h n hlen sv.l.rds (fun j hj => (mn j (ml j hj)).1) sv.le sv.dn hll hf) fun v1 h1 n1 hn1 ht => ?_
  simp only [core1, fgr, execOp, opd, putT, put, nth, forgetL, true_and]
  exact ht
theorem f41 (p : Nat) (ls os : List (List UInt8)) (D M : Nat → Prop) (h : Hp) (n : Nat) (hs : Stk h n D M p ls os) (hlen : os.length ≤ 5000) (hll : ∀ l ∈ os, l.length ≤ 1000000) (hf : Free h n) : Wp (callI env (evalW env) 41 [.ptr p 0]) h n (TwinP h n os) := by
  obtain ⟨vl, vo, xl, xo, sv, mp, ml, mo, mn⟩ := hs
  refine wp_callI ff41 fi41 ?_
  simp only [fu41, Try.f41, Option.getD_some, List.replicate, core1, tyr, fgr, execOp, opd, ofValue, putT, put, nth, forgetL, und, sizeOf, bor, binOther, strK, aggK, nilCheck, getO, ended, resultOf, oneOrTup, moved, fieldAddr, equalTop, equal, nilFn, nilPtr, boolOf, List.getElem?_cons_succ, List.getElem?_cons_zero, List.cons_append, List.nil_append, List.length_cons, List.length_nil, Nat.reduceSub, Bool.and_true, Bool.or_true, Nat.zero_add, Nat.add_zero, wp_pure]
  rw [opv_rd (Row.one (off := 1) sv.row rfl ti53 rfl)]
  simp only [core1, hkr, execOp, opd, opds, putT, put, nth, doCall, callV_func, List.nil_append, List.append_nil]
  refine opv_call (f70 vo xo os D h n hlen sv.o.rds (fun j hj => (mn j (mo j hj)).1) sv.oe sv.dn hll hf) fun v1 h1 n1 hn1 ht => ?_
  simp only [core1, fgr, execOp, opd, putT, put, nth, forgetL, true_and]
  exact ht
/- How long elements may be, plainly; the chapter's first examples. -/
theorem fin_len (s : Nat) (l : List UInt8) : (fin s l).length ≤ l.length + 1 := by
  by_cases h : l = []
  · subst h; rw [fin_nil]; simp
  · by_cases hb : 128 ≤ (l.getLast h).toNat
    · rw [fin_hi s l h hb]; simp
    · rw [fin_lo s l h hb]; have := List.length_pos_iff.2 h; simp only [List.length_append, List.length_dropLast, List.length_singleton]; omega
theorem encL_len (x : Int) (h1 : -9223372036854775808 < x) (h2 : x ≤ 9223372036854775807) : (encL x).length ≤ 9 := by
  unfold encL
  split
  · simp
  · unfold fmB
    have := fin_len (sgn x) (dig x.natAbs)
    have := dig_len 8 x.natAbs (by have : (256 : Nat) ^ 8 = 18446744073709551616 := by decide
                                   omega)
    omega
/-- Elements of at most 520 bytes, at most 100. -/
structure Ok (ls os : List (List UInt8)) : Prop where
  n : ls.length + os.length ≤ 100
  l : ∀ l ∈ ls, l.length ≤ 520
  o : ∀ l ∈ os, l.length ≤ 520
theorem top_ok {ls : List (List UInt8)} (h : ∀ l ∈ ls, l.length ≤ 520) (k : Int) : (topL ls k).length ≤ 520 := top_len h k
theorem pop_mem {ls : List (List UInt8)} {l : List UInt8} (h : l ∈ popL ls) : l ∈ ls := List.mem_of_mem_take h
theorem mem_getD {ls : List (List UInt8)} {i : Nat} : ls.getD i [] ∈ ls ∨ ls.getD i [] = [] := by
  rw [List.getD_eq_getElem?_getD]
  cases h : ls[i]? with
  | none => exact .inr rfl
  | some x => exact .inl (List.mem_of_getElem? h)
theorem doL_ok {c : Int} {ls os : List (List UInt8)} (h : Ok ls os) : (∀ l ∈ doL c ls os, l.length ≤ 520) ∧ (∀ l ∈ doO c ls os, l.length ≤ 520) := by
  have tl : (top ls).length ≤ 520 := top_ok h.l 0
  have to_ : (top os).length ≤ 520 := top_ok h.o 0
  have hn := h.n
  have el := encL_len (ls.length : Nat) (by omega) (by omega)
  have et := encL_len ((top ls).length : Nat) (by omega) (by omega)
  constructor
  · intro l hl
    unfold doL at hl
    split at hl
    · rcases List.mem_append.1 hl with q | q
      · exact h.l l (List.mem_of_mem_take q)
      · unfold pickL at q
        obtain ⟨i, _, rfl⟩ := List.mem_map.1 q
        rcases mem_getD (ls := ls.drop _) (i := i) with w | w
        · exact h.l _ (List.mem_of_mem_drop w)
        · rw [w]; simp
    · repeat' split at hl
      · exact h.l l (pop_mem hl)
      · rcases List.mem_append.1 hl with q | q
        · exact h.l l q
        · rw [List.mem_singleton] at q; rw [q]; exact to_
      · rcases List.mem_append.1 hl with q | q
        · exact h.l l q
        · rw [List.mem_singleton] at q; rw [q]; exact tl
      · exact h.l l hl
      · rcases List.mem_append.1 hl with q | q
        · exact h.l l q
        · rw [List.mem_singleton] at q; rw [q]; omega
      · rcases List.mem_append.1 hl with q | q
        · exact h.l l q
        · rw [List.mem_singleton] at q; rw [q]; omega
      · unfold farL at hl
        have hp : ∀ l ∈ popL ls, l.length ≤ 520 := fun l hl => h.l l (pop_mem hl)
        rcases List.mem_append.1 hl with q | q
        · split at q
          · unfold outI at q
            rcases List.mem_append.1 q with w | w
            · exact hp l (List.mem_of_mem_take w)
            · exact hp l (List.mem_of_mem_drop w)
          · exact hp l q
        · rw [List.mem_singleton] at q; rw [q]; exact top_ok hp _
  · intro l hl
    unfold doO at hl
    split at hl
    · exact h.o l hl
    · repeat' split at hl
      · rcases List.mem_append.1 hl with q | q
        · exact h.o l q
        · rw [List.mem_singleton] at q; rw [q]; exact tl
      · exact h.o l (pop_mem hl)
      · exact h.o l hl
theorem all_ok {c : Int} {ls os : List (List UInt8)} (h : Ok ls os) : Ok (allL c ls os) (allO c ls os) := by
  unfold allL allO
  by_cases he : allE c ls os = 0
  · rw [if_pos he, if_pos he]
    refine ⟨?_, (doL_ok h).1, (doL_ok h).2⟩
    unfold allE at he
    repeat' split at he
    · cases he
    · cases he
    · assumption
    · cases he
    · rename_i q; exact absurd he q
  · rw [if_neg he, if_neg he]; exact h
theorem new_ok {ls : List (List UInt8)} (h : newE ls = 0) : Ok ls [] := by
  unfold newE at h
  split at h
  · cases h
  · rename_i q
    split at h
    · cases h
    · rename_i w
      refine ⟨by rw [List.length_nil]; omega, fun l hl => ?_, fun l hl => by simp at hl⟩
      by_cases e : 520 < l.length
      · exact absurd (List.any_eq_true.2 ⟨l, hl, decide_eq_true e⟩) q
      · omega
/-- Operations, one after the other; nothing: one of them has an error. -/
def runC : List UInt8 → List (List UInt8) → List (List UInt8) → Option (List (List UInt8) × List (List UInt8))
  | [], ls, os => some (ls, os)
  | c :: cs, ls, os => if allE (c.toNat : Int) ls os = 0 then runC cs (allL (c.toNat : Int) ls os) (allO (c.toNat : Int) ls os) else none
def letters (s : List UInt8) : List (List UInt8) := s.map fun b => [b]
def doesV (a b cs : List UInt8) : Bool := match runC cs (letters a) [] with
  | none => false
  | some x => decide (x.1.flatten = b)
def Asc (s : List UInt8) : Bool := (List.range s.length).all fun i => (Utf8.decode ⟨⟨s⟩⟩ i).2 == 1
/- Stacks of letters, and their text. -/
theorem asc_w {s : List UInt8} (h : Asc s = true) {i : Nat} (hi : i < s.length) : (Utf8.decode ⟨⟨s⟩⟩ i).2 = 1 := by
  unfold Asc at h
  rw [List.all_eq_true] at h
  simpa using h i (List.mem_range.2 hi)
def ListN (h : Hp) (n n0 : Nat) (v : AVal) (ls : List (List UInt8)) : Prop := ∃ ys D, Lst h 22 1 v ls.length ys ∧ Els h D ys ls ∧ (∀ j, D j → n0 ≤ j ∧ j < n) ∧ (∀ j, ownId v = some j → n0 ≤ j ∧ j < n ∧ ¬ D j)
theorem letters_take {s : List UInt8} {i : Nat} (hi : i < s.length) : letters (s.take (i + 1)) = letters (s.take i) ++ [[s[i]]] := by
  unfold letters
  rw [List.take_add_one, List.getElem?_eq_getElem hi, Option.toList_some, List.map_append]; rfl
theorem letters_len (s : List UInt8) : (letters s).length = s.length := by unfold letters; simp
set_option maxHeartbeats 4000000 in
theorem loop51 (Q : Post0) (ks : List Kf) (n0 it : Nat) (s : List UInt8) (h0 : Hp) (hs : s.length ≤ 1000) (ha : Asc s = true) (hit : n0 ≤ it)
    (hq : ∀ (h : Hp) n v3 (x4 x5 x6 x9 x10 x27 : AVal), ListN h n n0 v3 (letters s) → Old h0 h n0 → n0 ≤ n → Free h n → Kont env 51 none Q ks (.exit 0) (.str s :: AVal.junk :: .nilp :: v3 :: x4 :: x5 :: x6 :: AVal.junk :: .ptr it 0 :: x9 :: x10 :: AVal.junk :: AVal.junk :: AVal.junk :: AVal.junk :: AVal.junk :: AVal.junk :: AVal.junk :: AVal.junk :: AVal.junk :: AVal.junk :: AVal.junk :: AVal.junk :: AVal.junk :: AVal.junk :: AVal.junk :: AVal.junk :: x27 :: AVal.junk :: []) h n) :
    ∀ (m i : Nat) (h : Hp) (n : Nat) (v3 : AVal) (x4 x5 x6 x9 x10 x27 : AVal), i + m = s.length → h it = some (.siter s i) → (∃ ys D, Lst h 22 1 v3 i ys ∧ Els h D ys (letters (s.take i)) ∧ (∀ j, D j → n0 ≤ j ∧ j < n ∧ j ≠ it) ∧ (∀ j, ownId v3 = some j → n0 ≤ j ∧ j < n ∧ ¬ D j ∧ j ≠ it)) → Old h0 h n0 → it < n → Free h n →
    Run env 51 none Q (.loop lp51_0) ks (.str s :: AVal.junk :: .nilp :: v3 :: x4 :: x5 :: x6 :: AVal.junk :: .ptr it 0 :: x9 :: x10 :: AVal.junk :: AVal.junk :: AVal.junk :: AVal.junk :: AVal.junk :: AVal.junk :: AVal.junk :: AVal.junk :: AVal.junk :: AVal.junk :: AVal.junk :: AVal.junk :: AVal.junk :: AVal.junk :: AVal.junk :: AVal.junk :: x27 :: AVal.junk :: []) h n := by
  intro m
  induction m with
  | zero =>
    intro i h n v3 x4 x5 x6 x9 x10 x27 hi hsi hl old hn hf
    have : i = s.length := by omega
    subst this
    have hc : Nat.blt s.length s.length = false := blit_of (by omega)
    rw [run_loop]
    simp only [lp51_0, loopsOf, Try.f51, Option.getD_some, core1, fgr, execOp, opd, putT, put, nth, forgetL, extract, getO, List.getElem?_cons_zero, List.nil_append, List.append_nil, List.getD_cons_zero, next, opv_get, hsi, Option.some.injEq, exists_eq_left', nextS, opv_ask, hc]
    rw [List.take_length] at hl
    obtain ⟨ys, D, l3, el, hd, hid⟩ := hl
    exact hq h n v3 _ _ _ _ _ _ ⟨ys, D, by rw [letters_len]; exact l3, el, fun j hj => ⟨(hd j hj).1, (hd j hj).2.1⟩, fun j hj => ⟨(hid j hj).1, (hid j hj).2.1, (hid j hj).2.2.1⟩⟩ old (by omega) hf
  | succ m ih =>
    intro i h n v3 x4 x5 x6 x9 x10 x27 hi hsi hl old hn hf
    obtain ⟨ys, D, l3, el, hd, hid⟩ := hl
    have hil : i < s.length := by omega
    have hc : Nat.blt i s.length = true := Nat.ble_eq_true_of_le (by omega)
    have hw : IntKind.i64.wrap (((i : Nat) : Int) + 1) = ((i + 1 : Nat) : Int) := by rw [w64 (by omega) (by omega)]; omega
    have hsl : (s.take (i + 1)).drop i = [s[i]] := by
      rw [List.take_add_one, List.getElem?_eq_getElem hil, Option.toList_some, List.drop_append_of_le_length (by rw [List.length_take]; omega), List.drop_of_length_le (by rw [List.length_take]; omega)]; rfl
    rw [run_loop]
    simp only [lp51_0, loopsOf, Try.f51, Option.getD_some, core1, fgr, execOp, opd, opt, ofValue, putT, put, nth, forgetL, bor, binInt, shiftB, intOp, wrapI, extract, getO, List.getElem?_cons_succ, List.getElem?_cons_zero, List.nil_append, List.append_nil, decide_true, List.getD_cons_zero, next, opv_get, hsi, Option.some.injEq, exists_eq_left', nextS, opv_ask, hc, opv_set, asc_w ha hil, hw]
    refine ⟨by simp, ?_⟩
    have hb1 : (decide ((0 : Int) ≤ ((i + 1 : Nat) : Int) ∧ ((i + 1 : Nat) : Int) ≤ ((s.length : Nat) : Int))) = true := decide_eq_true ⟨by omega, by omega⟩
    have hb2 : (decide ((0 : Int) ≤ ((i : Nat) : Int) ∧ ((i : Nat) : Int) ≤ ((i + 1 : Nat) : Int))) = true := decide_eq_true ⟨by omega, by omega⟩
    simp only [core1, tyr, execOp, opd, putT, put, nth, und, sizeOf, strK, intK, true_and, slice, bound, opv_ob, hb1, hb2, Int.toNat_natCast, hsl]
    have f1 : Free (upd h it (some (Blk.siter s (i + 1)))) n := hf.upd hn
    have o1 : ∀ j, j ≠ it → upd h it (some (Blk.siter s (i + 1))) j = h j := fun j hj => upd_ne _ _ hj
    have hs1 : upd h it (some (Blk.siter s (i + 1))) it = some (Blk.siter s (i + 1)) := upd_same _ _ _
    generalize upd h it (some (Blk.siter s (i + 1))) = h1 at *
    rw [toBytes t9 t22 ti5 t5 s5]
    have g2 := upd_same h1 n (some (Blk.row (Cont.l ([s[i]].map u8)) 5))
    have o2 : ∀ j, j ≠ n → upd h1 n (some (Blk.row (Cont.l ([s[i]].map u8)) 5)) j = h1 j := fun j hj => upd_ne _ _ hj
    have f2 : Free (upd h1 n (some (Blk.row (Cont.l ([s[i]].map u8)) 5))) (n + 1) := f1.new
    generalize upd h1 n (some (Blk.row (Cont.l ([s[i]].map u8)) 5)) = h2 at *
    have b2 : Bytes h2 (.sl n 0 [s[i]].length none 1) [s[i]] := (row_rds g2 rfl).bytes (by simp)
    simp only [core1, execOp, opd, ops2, putT, put, nth, List.length_cons, List.length_nil, Nat.zero_add]
    rw [bs22 _ ⟨rfl, rfl, rfl⟩]
    refine opv_row ti22 f2 fun h3 g3 o3 f3 => ?_
    have l33 : Lst h3 22 1 v3 i ys := l3.keep fun j hj => by have := hid j hj; rw [o3 j (by omega), o2 j (by omega), o1 j this.2.2.2]
    simp only [core1, execOp, opd, opds, putT, put, nth, doCall, builtin, two2]
    refine opv_lst_append (i := ⟨.slice 5, 1, 24, .nils⟩) (e := 22) (k := 1) (ys := [.sl n 0 [s[i]].length none 1]) l33 (row_rds g3 rfl) u53 u53 ti22 rfl (by decide) (by show 2 * (i + 1) * 24 ≤ _; omega) (by omega) f3 ?_
    intro v4 h4 n4 hn4 f4 l4 i4 o4
    simp only [core1, fgr, execOp, opd, putT, put, nth, forgetL]
    have hd4 : ∀ j, D j → h4 j = h j := fun j hj => by
      have := hd j hj
      rw [o4 j (by omega) (fun q => (hid j q).2.2.1 hj), o3 j (by omega), o2 j (by omega), o1 j this.2.2]
    have hn4' : h4 n = h2 n := by rw [o4 n (by omega) (fun q => by have := (hid n q).2.1; omega), o3 n (by omega)]
    have hi4 : ∀ j, ownId v4 = some j → (ownId v3 = some j) ∨ (j = n + 1 + 1 ∧ j < n4) := fun j hj => i4.elim (fun q => .inl (by rw [← q]; exact hj)) (fun q => .inr (by rw [q.1] at hj; injection hj with hj; omega))
    refine ih (i + 1) h4 n4 v4 _ _ _ _ _ _ (by omega) ?_ ⟨ys ++ [.sl n 0 [s[i]].length none 1], fun j => D j ∨ j = n, l4, ?_, ?_, ?_⟩ ?_ (by omega) f4
    · rw [o4 it (by omega) (fun q => (hid it q).2.2.2 rfl), o3 it (by omega), o2 it (by omega)]; exact hs1
    · rw [letters_take hil]
      exact (el.mono (fun j q => .inl q) hd4).app (Els.one ⟨b2.keep (fun j hj => by injection hj with hj; subst hj; exact hn4'), fun j q => by injection q with q; exact .inr q.symm⟩)
    · intro j hj
      rcases hj with q | q
      · have := hd j q; omega
      · omega
    · intro j hj
      rcases hi4 j hj with q | q
      · have := hid j q
        exact ⟨this.1, by omega, fun w => w.elim this.2.2.1 (fun w => by omega), this.2.2.2⟩
      · exact ⟨by omega, by omega, fun w => w.elim (fun w => by have := hd j w; omega) (fun w => by omega), by omega⟩
    · intro j hj
      rw [o4 j (by omega) (fun q => by have := (hid j q).1; omega), o3 j (by omega), o2 j (by omega), o1 j (by omega), old j hj]
theorem letters_new (s : List UInt8) (hs : s.length ≤ 100) : newE (letters s) = 0 := by
  unfold newE
  rw [if_neg, if_neg (by rw [letters_len]; omega)]
  intro h
  rw [List.any_eq_true] at h
  obtain ⟨x, hx, h2⟩ := h
  unfold letters at hx
  obtain ⟨b, _, rfl⟩ := List.mem_map.1 hx
  unfold longB at h2
  simp at h2
theorem f51 (s : List UInt8) (h : Hp) (n : Nat) (hs : s.length ≤ 100) (ha : Asc s = true) (hf : Free h n) :
    Wp (callI env (evalW env) 51 [.str s]) h n fun v' h' n' => ∃ p, v' = .ptr p 0 ∧ StkN h' n' n p (letters s) [] ∧ Old h h' n := by
  refine wp_callI ff51 fi51 ?_
  simp only [fu51, Try.f51, Option.getD_some, List.replicate, core1, tyr, fgr, execOp, opd, ofValue, putT, put, nth, forgetL, und, strK, ended, resultOf, oneOrTup, List.cons_append, List.nil_append, List.length_cons, List.length_nil, Nat.reduceSub, Nat.zero_add, wp_pure, range]
  refine loop51 _ _ n n s h (by omega) ha (Nat.le_refl _) ?_ s.length 0 (upd h n (some (.siter s 0))) (n + 1) .nils _ _ _ _ _ _ (by omega) (upd_same _ _ _) ⟨[], fun _ => False, .nil, Els.nil _ _, fun j hj => hj.elim, fun j hj => (by cases hj)⟩ (fun j hj => upd_ne _ _ (by omega)) (by omega) hf.new
  intro h1 n1 v3 x4 x5 x6 x9 x10 x27 hl old hn f1
  obtain ⟨ys, D, l3, el, hd, hid⟩ := hl
  simp only [core1, hkr, execOp, opd, opds, putT, put, nth, doCall, callV_func, List.nil_append, List.append_nil]
  refine opv_callf f1 (f37 v3 ys (letters s) D h1 n1 (by rw [letters_len]; omega) l3.rds (fun j hj => (hid j hj).2.1) el (fun j hj => (hd j hj).2) f1) fun v2 h2 n2 hn2 f2 ⟨o2, hh⟩ => ?_
  rcases hh with ⟨q, _⟩ | ⟨_, p, e2, st⟩
  · exact absurd (letters_new s hs) q
  · subst e2
    simp only [core1, fgr, execOp, opd, ofValue, putT, put, nth, forgetL, bor, binInt, shiftB, intOp, extract, getO, List.getElem?_cons_succ, List.getElem?_cons_zero, decide_true, true_and, bne_self_eq_false]
    exact ⟨p, rfl, st.less hn, fun j hj => (o2 j (by omega)).trans (old j hj)⟩
theorem flat_take {ls : List (List UInt8)} {i : Nat} (hi : i < ls.length) : (ls.take (i + 1)).flatten = (ls.take i).flatten ++ ls[i] := by
  rw [List.take_add_one, List.getElem?_eq_getElem hi, Option.toList_some, List.flatten_append]; simp
theorem flat_len {ls : List (List UInt8)} (h : ∀ l ∈ ls, l.length ≤ 1000000) (h2 : ls.length ≤ 5000) : ls.flatten.length ≤ 5000000000 := by
  have : ∀ ms : List (List UInt8), (∀ l ∈ ms, l.length ≤ 1000000) → ms.flatten.length ≤ ms.length * 1000000 := by
    intro ms
    induction ms with
    | nil => intro _; simp
    | cons m ms ih =>
      intro hm
      have h1 := hm m (List.mem_cons_self)
      have h3 := ih fun l hl => hm l (List.mem_cons_of_mem _ hl)
      simp only [List.flatten_cons, List.length_append, List.length_cons]
      omega
  have := this ls h
  omega
set_option maxHeartbeats 4000000 in
theorem loop52 (Q : Post0) (ks : List Kf) (v7 : AVal) (ys : List AVal) (ls : List (List UInt8)) (D : Nat → Prop) (h : Hp) (n : Nat) (hlen : ls.length ≤ 5000) (hv : Rds h 1 v7 ls.length ys) (hel : Els h D ys ls) (hll : ∀ l ∈ ls, l.length ≤ 1000000) (x0 : AVal)
    (hq : ∀ (x5 x9 x10 : AVal), Kont env 52 none Q ks (.exit 0) (x0 :: AVal.junk :: .str [] :: .str ls.flatten :: AVal.junk :: x5 :: AVal.junk :: v7 :: .int .i64 (ls.length : Nat) :: x9 :: x10 :: AVal.junk :: AVal.junk :: AVal.junk :: AVal.junk :: AVal.junk :: AVal.junk :: AVal.junk :: AVal.junk :: []) h n) :
    ∀ (m i : Nat) (x5 x10 : AVal), i + m = ls.length →
    Run env 52 none Q (.loop lp52_0) ks (x0 :: AVal.junk :: .str [] :: .str (ls.take i).flatten :: AVal.junk :: x5 :: AVal.junk :: v7 :: .int .i64 (ls.length : Nat) :: .int .i64 (i : Nat) :: x10 :: AVal.junk :: AVal.junk :: AVal.junk :: AVal.junk :: AVal.junk :: AVal.junk :: AVal.junk :: AVal.junk :: []) h n := by
  intro m
  induction m with
  | zero =>
    intro i x5 x10 hi
    have : i = ls.length := by omega
    subst this
    have hc : ¬ ((ls.length : Nat) : Int) < ((ls.length : Nat) : Int) := by omega
    rw [run_loop]
    simp only [lp52_0, loopsOf, Try.f52, Option.getD_some, core1, fgr, execOp, opd, putT, put, nth, forgetL, bor, binInt, shiftB, intOp, List.nil_append, List.append_nil, decide_true, decide_false, List.getD_cons_zero, hc, List.take_length]
    exact hq _ _ _
  | succ m ih =>
    intro i x5 x10 hi
    have hil : i < ls.length := by omega
    have hc : ((i : Nat) : Int) < ((ls.length : Nat) : Int) := by omega
    have hw : IntKind.i64.wrap (((i : Nat) : Int) + 1) = ((i + 1 : Nat) : Int) := by rw [w64 (by omega) (by omega)]; omega
    obtain ⟨x, hx1, hx2⟩ := hel.get hil
    have h1 := flat_len (fun l hl => hll l (List.mem_of_mem_take hl)) (show (ls.take i).length ≤ 5000 by rw [List.length_take]; omega)
    have h2 := hll _ (List.getElem_mem hil)
    have hr : (decide ((((ls.take i).flatten.length + ls[i].length : Nat) : Int) ≤ 9223372036854775807)) = true := decide_eq_true (by omega)
    rw [run_loop]
    simp only [lp52_0, loopsOf, Try.f52, Option.getD_some, core1, fgr, execOp, opd, putT, put, nth, forgetL, bor, binInt, shiftB, intOp, List.nil_append, List.append_nil, decide_true, List.getD_cons_zero, hc]
    rw [opv_rd (hv.idx (j := i) u53 s22 rfl hil)]
    simp only [core1, execOp, opd, putT, put, nth, Nat.mul_one]
    rw [opv_rd (hv.load (k := i) ti22 rfl hx1)]
    simp only [core1, fgr, execOp, opd, putT, put, nth, forgetL]
    rw [opv_rd (hx2.1.str_rd t22 t9 t5)]
    simp only [core1, fgr, execOp, opd, ofValue, putT, put, nth, forgetL, bor, binInt, shiftB, intOp, wrapI, strOp, strK, decide_true, true_and, hr, hw]
    rw [← flat_take hil]
    exact ih (i + 1) _ _ (by omega)
theorem f52 (p : Nat) (ls os : List (List UInt8)) (D M : Nat → Prop) (h : Hp) (n : Nat) (hs : Stk h n D M p ls os) (hlen : ls.length ≤ 5000) (hll : ∀ l ∈ ls, l.length ≤ 1000000) (hf : Free h n) : Wp (callI env (evalW env) 52 [.ptr p 0]) h n fun v' h' n' => v' = .str ls.flatten ∧ Old h h' n := by
  refine wp_callI ff52 fi52 ?_
  simp only [fu52, Try.f52, Option.getD_some, List.replicate, core1, fgr, hkr, execOp, opd, opds, ofValue, putT, put, nth, forgetL, doCall, callV_func, ended, resultOf, oneOrTup, List.cons_append, List.nil_append, List.append_nil, List.length_cons, List.length_nil, Nat.reduceSub, Nat.zero_add, wp_pure]
  refine opv_callf hf (f40 p ls os D M h n hs hlen hll hf) fun v1 h1 n1 hn1 f1 ⟨ys, D', l1, el, wr, hd, hid, o1⟩ => ?_
  simp only [core1, fgr, execOp, opd, opds, ofValue, putT, put, nth, forgetL, doCall, builtin, one1, l1.rds.bLen u53]
  refine loop52 _ _ v1 ys ls D' h1 n1 hlen l1.rds el hll _ ?_ ls.length 0 _ _ (by omega)
  intro x5 x9 x10
  simp only [core1, fgr, execOp, opd, putT, put, nth, forgetL, true_and]
  exact o1
set_option maxHeartbeats 4000000 in
theorem loop50 (Q : Post0) (ks : List Kf) (p n0 : Nat) (a b cs : List UInt8) (w : AVal) (h0 : Hp) (hcs : cs.length ≤ 1000) (hw : Bytes h0 w cs) (hwn : ∀ j, ownId w = some j → j < n0)
    (hq : ∀ (h : Hp) n ls os (x9 x15 x21 : AVal), runC cs (letters a) [] = some (ls, os) → Ok ls os → StkN h n n0 p ls os → Old h0 h n0 → n0 ≤ n → Free h n → Kont env 50 none Q ks (.exit 0) (.str a :: .str b :: w :: AVal.junk :: AVal.junk :: AVal.junk :: .bool false :: .ptr p 0 :: AVal.junk :: x9 :: AVal.junk :: AVal.junk :: w :: .int .i64 (cs.length : Nat) :: .int .i64 (cs.length : Nat) :: x15 :: AVal.junk :: AVal.junk :: AVal.junk :: AVal.junk :: AVal.junk :: x21 :: AVal.junk :: AVal.junk :: AVal.junk :: AVal.junk :: AVal.junk :: []) h n)
    (hr : ∀ (h : Hp) n (x9 x15 x21 : AVal) (z : AVal), runC cs (letters a) [] = none → Old h0 h n0 → n0 ≤ n → Kont env 50 none Q ks .ret (.str a :: .str b :: w :: AVal.junk :: AVal.junk :: AVal.junk :: .bool false :: .ptr p 0 :: AVal.junk :: x9 :: AVal.junk :: AVal.junk :: w :: .int .i64 (cs.length : Nat) :: z :: x15 :: AVal.junk :: AVal.junk :: AVal.junk :: AVal.junk :: AVal.junk :: x21 :: AVal.junk :: AVal.junk :: AVal.junk :: AVal.junk :: AVal.junk :: []) h n) :
    ∀ (m i : Nat) (h : Hp) (n : Nat) (ls os : List (List UInt8)) (x9 x15 x21 : AVal), i + m = cs.length → runC (cs.drop i) ls os = runC cs (letters a) [] → Ok ls os → StkN h n n0 p ls os → Old h0 h n0 → n0 ≤ n → Free h n →
    Run env 50 none Q (.loop lp50_0) ks (.str a :: .str b :: w :: AVal.junk :: AVal.junk :: AVal.junk :: .bool false :: .ptr p 0 :: AVal.junk :: x9 :: AVal.junk :: AVal.junk :: w :: .int .i64 (cs.length : Nat) :: .int .i64 (i : Nat) :: x15 :: AVal.junk :: AVal.junk :: AVal.junk :: AVal.junk :: AVal.junk :: x21 :: AVal.junk :: AVal.junk :: AVal.junk :: AVal.junk :: AVal.junk :: []) h n := by
  intro m
  induction m with
  | zero =>
    intro i h n ls os x9 x15 x21 hi hrun ok st old hn hf
    have : i = cs.length := by omega
    subst this
    have hc : ¬ ((cs.length : Nat) : Int) < ((cs.length : Nat) : Int) := by omega
    rw [run_loop]
    simp only [lp50_0, loopsOf, Try.f50, Option.getD_some, core1, fgr, execOp, opd, putT, put, nth, forgetL, bor, binInt, shiftB, intOp, List.nil_append, List.append_nil, decide_true, decide_false, List.getD_cons_zero, hc]
    rw [List.drop_length] at hrun
    exact hq h n ls os _ _ _ hrun.symm ok st old hn hf
  | succ m ih =>
    intro i h n ls os x9 x15 x21 hi hrun ok st old hn hf
    have hil : i < cs.length := by omega
    have hc : ((i : Nat) : Int) < ((cs.length : Nat) : Int) := by omega
    have hwr : IntKind.i64.wrap (((i : Nat) : Int) + 1) = ((i + 1 : Nat) : Int) := by rw [w64 (by omega) (by omega)]; omega
    have hwh : Bytes h w cs := hw.keep fun j hj => old j (hwn j hj)
    have hget : (cs.map u8)[i]? = some (.int .u8 ((cs[i].toNat : Nat) : Int)) := by rw [List.getElem?_map, List.getElem?_eq_getElem hil]; rfl
    rw [List.drop_eq_getElem_cons hil] at hrun
    simp only [runC] at hrun
    obtain ⟨D, M, s, hd, hm⟩ := st
    have okn := ok.n
    rw [run_loop]
    simp only [lp50_0, loopsOf, Try.f50, Option.getD_some, core1, fgr, execOp, opd, putT, put, nth, forgetL, bor, binInt, shiftB, intOp, List.nil_append, List.append_nil, decide_true, List.getD_cons_zero, hc]
    rw [opv_rd (hwh.rds.idx (j := i) t22 s5 rfl hil)]
    simp only [core1, execOp, opd, putT, put, nth, Nat.mul_one]
    rw [opv_rd (hwh.rds.load (k := i) ti5 rfl hget)]
    simp only [core1, fgr, hkr, execOp, opd, opds, putT, put, nth, forgetL, doCall, callV_func, List.nil_append, List.append_nil]
    refine opv_callf hf (f38 p (cs[i].toNat : Int) ls os D M h n s (by omega) (by omega) (fun l hl => by have := ok.l l hl; omega) hf) fun v1 h1 n1 hn1 f1 ⟨e1, D', M', s1, c1⟩ => ?_
    subst e1
    have old1 : Old h0 h1 n0 := fun j hj => by rw [c1.old j (by omega) (fun q => by have := hm j q; omega)]; exact old j hj
    by_cases he : allE (cs[i].toNat : Int) ls os = 0
    · rw [if_pos he] at hrun
      simp only [core1, fgr, execOp, opd, ofValue, putT, put, nth, forgetL, bor, binInt, shiftB, intOp, wrapI, decide_true, bne_self_eq_false, he, hwr]
      exact ih (i + 1) h1 n1 _ _ _ _ _ (by omega) hrun (all_ok ok) ⟨D', M', s1, fun j hj => (c1.d' j hj).elim (hd j) (fun q => by omega), fun j hj => (c1.m' j hj).elim (hm j) (fun q => by omega)⟩ old1 (by omega) f1
    · rw [if_neg he] at hrun
      simp only [core1, fgr, execOp, opd, ofValue, putT, put, nth, forgetL, bor, binInt, shiftB, intOp, int_bne, not_false_eq_true, decide_true, he]
      exact hr h1 n1 _ _ _ _ hrun.symm old1 (by omega)
theorem f50 (a b cs : List UInt8) (w : AVal) (h : Hp) (n : Nat) (ha : a.length ≤ 100) (hasc : Asc a = true) (hcs : cs.length ≤ 1000) (hw : Bytes h w cs) (hwn : ∀ j, ownId w = some j → j < n) (hf : Free h n) :
    Wp (callI env (evalW env) 50 [.str a, .str b, w]) h n fun v' h' n' => v' = .bool (doesV a b cs) ∧ Old h h' n := by
  refine wp_callI ff50 fi50 ?_
  simp only [fu50, Try.f50, Option.getD_some, List.replicate, core1, fgr, hkr, execOp, opd, opds, ofValue, putT, put, nth, forgetL, doCall, callV_func, ended, resultOf, oneOrTup, List.cons_append, List.nil_append, List.append_nil, List.length_cons, List.length_nil, Nat.reduceAdd, Nat.reduceSub, Nat.zero_add, wp_pure]
  refine opv_callf hf (f51 a h n ha hasc hf) fun v1 h1 n1 hn1 f1 ⟨p, e1, st, o1⟩ => ?_
  subst e1
  have hw1 : Bytes h1 w cs := hw.keep fun j hj => o1 j (hwn j hj)
  have ok0 := new_ok (letters_new a ha)
  simp only [core1, fgr, execOp, opd, opds, ofValue, putT, put, nth, forgetL, doCall, builtin, one1, hw1.bLen t22]
  refine loop50 _ _ p n a b cs w h hcs hw hwn ?_ ?_ cs.length 0 h1 n1 (letters a) [] _ _ _ (by omega) (by rw [List.drop_zero]) ok0 st o1 hn1 f1
  · intro h2 n2 ls os x9 x15 x21 hrun ok st2 old hn2 f2
    obtain ⟨D, M, s, hd, hm⟩ := st2
    simp only [core1, hkr, execOp, opd, opds, putT, put, nth, doCall, callV_func, List.nil_append, List.append_nil]
    refine opv_callf f2 (f52 p ls os D M h2 n2 s (by have := ok.n; omega) (fun l hl => by have := ok.l l hl; omega) f2) fun v3 h3 n3 hn3 f3 ⟨e3, o3⟩ => ?_
    subst e3
    have hv : doesV a b cs = decide (ls.flatten = b) := by unfold doesV; rw [hrun]
    simp only [core1, fgr, execOp, opd, putT, put, nth, forgetL, bor, strOp, strK, str_beq, true_and]
    exact ⟨by rw [hv], fun j hj => (o3 j (by omega)).trans (old j hj)⟩
  · intro h2 n2 x9 x15 x21 z hrun old hn2
    have hv : doesV a b cs = false := by unfold doesV; rw [hrun]
    simp only [core1, nth, true_and]
    exact ⟨by rw [hv], old⟩
theorem al1 : doesV [1, 2, 3] [2, 3, 1] [123] = true := by decide +kernel
theorem al2 : doesV [1, 2, 3] [1, 3, 2, 3] [125] = true := by decide +kernel
theorem al3 : doesV [1, 2, 3] [1, 3] [119] = true := by decide +kernel
theorem one_bytes {h : Hp} {id : Nat} {e : TypeId} {cap : Option Nat} {xs : List AVal} (l : List UInt8) (hh : h id = some (.row (.l xs) e)) (hx : xs = l.map u8) : Bytes h (.sl id 0 l.length cap 1) l := by
  subst hx
  exact (row_rds hh (by simp)).bytes (by simp)
theorem f35 (h : Hp) (n : Nat) (hf : Free h n) : Wp (callI env (evalW env) 35 []) h n fun v' h' n' => v' = .bool true ∧ Old h h' n := by
  refine wp_callI ff35 fi35 ?_
  simp (disch := first | omega | exact NB _ rfl _) only [fu35, Try.f35, Option.getD_some, List.replicate, core1, tyr, fgr, hkr, execOp, opd, opds, ofValue, ops2, putT, put, nth, forgetL, doCall, callV_func, und, cel, newRow, getO, ended, resultOf, oneOrTup, List.cons_append, List.nil_append, List.append_nil, List.length_cons, List.length_nil, Nat.reduceSub, Nat.beq, Bool.not_false, Bool.and_true, Bool.true_and, Nat.zero_add, Nat.zero_mul, wp_pure, buildSlice, reps, fill, List.take_zero, List.drop_succ_cons, List.drop_zero, Nat.ble, Nat.one_mul, List.length_cons, List.length_nil, Nat.zero_mul]
  refine opv_callf hf.new (f50 [1, 2, 3] [2, 3, 1] [123] _ _ _ (by decide) (by decide +kernel) (by decide) (one_bytes [123] (upd_same _ _ _) rfl) (fun j hj => by injection hj with hj; omega) hf.new) fun v1 h1 n1 hn1 f1 ⟨e1, o1⟩ => ?_
  subst e1
  rw [al1]
  have q1 : Old h h1 n := fun j hj => by rw [o1 j (by omega), upd_ne _ _ (by omega)]
  simp (disch := first | omega | exact NB _ rfl _) only [core1, tyr, hkr, execOp, opd, opds, ofValue, ops2, putT, put, nth, doCall, callV_func, und, cel, newRow, getO, List.getElem?_cons_succ, List.getElem?_cons_zero, List.cons_append, List.nil_append, List.append_nil, List.length_cons, List.length_nil, Nat.beq, Bool.not_false, Bool.and_true, Bool.true_and, Nat.zero_add, Nat.zero_mul, buildSlice, reps, fill, List.take_zero, List.drop_succ_cons, List.drop_zero, Nat.ble, Nat.one_mul, List.length_cons, List.length_nil, Nat.zero_mul]
  refine opv_callf f1.new (f50 [1, 2, 3] [1, 3, 2, 3] [125] _ _ _ (by decide) (by decide +kernel) (by decide) (one_bytes [125] (upd_same _ _ _) rfl) (fun j hj => by injection hj with hj; omega) f1.new) fun v2 h2 n2 hn2 f2 ⟨e2, o2⟩ => ?_
  subst e2
  rw [al2]
  have q2 : Old h h2 n := fun j hj => by rw [o2 j (by omega), upd_ne _ _ (by omega), q1 j hj]
  simp (disch := first | omega | exact NB _ rfl _) only [core1, tyr, hkr, execOp, opd, opds, ofValue, ops2, putT, put, nth, doCall, callV_func, und, doPick, branch, cel, newRow, getO, List.getElem?_cons_succ, List.getElem?_cons_zero, List.cons_append, List.nil_append, List.append_nil, List.length_cons, List.length_nil, Nat.beq, Bool.not_false, Bool.and_true, Bool.true_and, Nat.zero_add, Nat.zero_mul, buildSlice, reps, fill, List.take_zero, List.drop_succ_cons, List.drop_zero, Nat.ble, Nat.one_mul, List.length_cons, List.length_nil, Nat.zero_mul]
  refine opv_callf f2.new (f50 [1, 2, 3] [1, 3] [119] _ _ _ (by decide) (by decide +kernel) (by decide) (one_bytes [119] (upd_same _ _ _) rfl) (fun j hj => by injection hj with hj; omega) f2.new) fun v3 h3 n3 hn3 f3 ⟨e3, o3⟩ => ?_
  subst e3
  rw [al3]
  simp only [core1, fgr, execOp, opd, ofValue, putT, put, nth, forgetL, doPick, branch, true_and]
  exact fun j hj => by rw [o3 j (by omega), upd_ne _ _ (by omega), q2 j hj]
/-- A list of elements that stands in no memory that is written. -/
structure ArgL (v : AVal) (ls : List (List UInt8)) (xs : List AVal) : Prop where
  rd : ∀ h, Rds h 1 v ls.length xs
  id : ownId v = none
  el : ∀ h, Els h (fun _ => False) xs ls
  len : ls.length ≤ maxLen
theorem argEl {v : AVal} {l : List UInt8} (ha : ArgBytes v l) (h : Hp) : El h (fun _ => False) v l :=
  ⟨ha.bytes h, fun j hj => by
    have := ha.below 0
    cases v with
    | sl id off len cap sz => exact absurd this (Nat.not_lt_zero _)
    | _ => cases hj⟩
theorem argL {v : AVal} (ha : Arg Try.prog 53 [v]) : ∃ ls xs, ArgL v ls xs := by
  have c22 : Try.prog.cellsOf 22 = 1 := by kernel_rfl
  have c5 : Try.prog.cellsOf 5 = 1 := by kernel_rfl
  rcases ha.slice_inv Try.underlying53 (by omega) with h | ⟨f, len, h, hl, hx⟩
  · injection h with h; subst h
    exact ⟨[], [], fun h => .nils, rfl, fun h => Els.nil _ _, Nat.zero_le _⟩
  · injection h with h
    subst h
    rw [c22] at hx ⊢
    have each : ∀ i, ∃ l : List UInt8, i < len → ArgBytes (f i) l := fun i => by
      by_cases hi : i < len
      · have := hx i hi
        rw [Nat.mul_one, cut_one] at this
        obtain ⟨l, h1, _⟩ := arg_bytes Try.underlying22 Try.underlying5 c5 this
        exact ⟨l, fun _ => h1⟩
      · exact ⟨[], fun q => absurd q hi⟩
    obtain ⟨b, hb⟩ := Classical.axiomOfChoice each
    refine ⟨(List.range len).map b, (List.range len).map f, fun h => ?_, rfl, fun h => ⟨by simp, fun j x l hx hl2 => ?_⟩, by simpa using hl⟩
    · rw [List.length_map, List.length_range]
      exact .isl f 0 len _ (by simp) (fun j hj => by simp)
    · rw [List.getElem?_map] at hx hl2
      cases hj : (List.range len)[j]? with
      | none => rw [hj] at hx; cases hx
      | some i =>
        rw [hj] at hx hl2
        injection hx with hx; injection hl2 with hl2
        subst hx; subst hl2
        have hi := (List.getElem?_eq_some_iff.1 hj).2
        have hjl := (List.getElem?_eq_some_iff.1 hj).1
        simp only [List.getElem_range] at hi
        subst hi
        rw [List.length_range] at hjl
        exact argEl (hb j hjl) h
def overB (l : List UInt8) : Bool := decide (600 < l.length)
def greatV (ls : List (List UInt8)) : Bool := ls.any overB || decide (150 < ls.length)
set_option maxHeartbeats 4000000 in
theorem loop36 (Q : Post0) (ks : List Kf) (v w : AVal) (xs : List AVal) (ls : List (List UInt8)) (D : Nat → Prop) (h : Hp) (n : Nat) (hlen : ls.length ≤ 9223372036854775807) (hv : Rds h 1 v ls.length xs) (hel : Els h D xs ls)
    (hq : ∀ (x5 x6 x10 x17 x20 x21 x22 x30 : AVal), ls.any overB = false → Kont env 36 none Q ks (.exit 0) (v :: w :: AVal.junk :: AVal.junk :: .bool false :: x5 :: x6 :: AVal.junk :: .int .i64 (ls.length : Nat) :: .int .i64 (ls.length : Nat) :: x10 :: AVal.junk :: AVal.junk :: AVal.junk :: AVal.junk :: AVal.junk :: AVal.junk :: x17 :: AVal.junk :: AVal.junk :: x20 :: x21 :: x22 :: AVal.junk :: AVal.junk :: AVal.junk :: AVal.junk :: AVal.junk :: AVal.junk :: AVal.junk :: x30 :: AVal.junk :: AVal.junk :: AVal.junk :: AVal.junk :: AVal.junk :: AVal.junk :: AVal.junk :: AVal.junk :: AVal.junk :: []) h n)
    (hr : ∀ (x5 x6 x10 x17 x20 x21 x22 x30 : AVal) (z : AVal), ls.any overB = true → Kont env 36 none Q ks .ret (v :: w :: AVal.junk :: AVal.junk :: .bool true :: x5 :: x6 :: AVal.junk :: .int .i64 (ls.length : Nat) :: z :: x10 :: AVal.junk :: AVal.junk :: AVal.junk :: AVal.junk :: AVal.junk :: AVal.junk :: x17 :: AVal.junk :: AVal.junk :: x20 :: x21 :: x22 :: AVal.junk :: AVal.junk :: AVal.junk :: AVal.junk :: AVal.junk :: AVal.junk :: AVal.junk :: x30 :: AVal.junk :: AVal.junk :: AVal.junk :: AVal.junk :: AVal.junk :: AVal.junk :: AVal.junk :: AVal.junk :: AVal.junk :: []) h n) :
    ∀ (m i : Nat) (x5 x6 x10 x17 x20 x21 x22 x30 : AVal), i + m = ls.length → (ls.take i).any overB = false →
    Run env 36 none Q (.loop lp36_0) ks (v :: w :: AVal.junk :: AVal.junk :: .bool false :: x5 :: x6 :: AVal.junk :: .int .i64 (ls.length : Nat) :: .int .i64 (i : Nat) :: x10 :: AVal.junk :: AVal.junk :: AVal.junk :: AVal.junk :: AVal.junk :: AVal.junk :: x17 :: AVal.junk :: AVal.junk :: x20 :: x21 :: x22 :: AVal.junk :: AVal.junk :: AVal.junk :: AVal.junk :: AVal.junk :: AVal.junk :: AVal.junk :: x30 :: AVal.junk :: AVal.junk :: AVal.junk :: AVal.junk :: AVal.junk :: AVal.junk :: AVal.junk :: AVal.junk :: AVal.junk :: []) h n := by
  intro m
  induction m with
  | zero =>
    intro i x5 x6 x10 x17 x20 x21 x22 x30 hi hs
    have : i = ls.length := by omega
    subst this
    have hc : ¬ ((ls.length : Nat) : Int) < ((ls.length : Nat) : Int) := by omega
    rw [run_loop]
    simp only [lp36_0, loopsOf, Try.f36, Option.getD_some, core1, fgr, execOp, opd, putT, put, nth, forgetL, bor, binInt, shiftB, intOp, List.cons_append, List.nil_append, List.append_nil, decide_true, decide_false, List.getD_cons_zero, hc]
    rw [List.take_length] at hs
    exact hq _ _ _ _ _ _ _ _ hs
  | succ m ih =>
    intro i x5 x6 x10 x17 x20 x21 x22 x30 hi hs
    have hil : i < ls.length := by omega
    have hc : ((i : Nat) : Int) < ((ls.length : Nat) : Int) := by omega
    have hwr : IntKind.i64.wrap (((i : Nat) : Int) + 1) = ((i + 1 : Nat) : Int) := by rw [w64 (by omega) (by omega)]; omega
    obtain ⟨x, hx1, hx2⟩ := hel.get hil
    rw [run_loop]
    simp only [lp36_0, loopsOf, Try.f36, Option.getD_some, core1, fgr, execOp, opd, putT, put, nth, forgetL, bor, binInt, shiftB, intOp, List.cons_append, List.nil_append, List.append_nil, decide_true, List.getD_cons_zero, hc]
    rw [opv_rd (hv.idx (j := i) u53 s22 rfl hil)]
    simp only [core1, execOp, opd, putT, put, nth, Nat.mul_one]
    rw [opv_rd (hv.load (k := i) ti22 rfl hx1)]
    by_cases hov : 600 < ls[i].length
    · have hc2 : 600 < ((ls[i].length : Nat) : Int) := by omega
      simp only [core1, fgr, execOp, opd, opds, ofValue, putT, put, nth, forgetL, doCall, builtin, one1, bor, binInt, shiftB, intOp, gt_iff_lt, decide_true, hx2.1.bLen t22, hc2]
      exact hr _ _ _ _ _ _ _ _ _ (List.any_eq_true.2 ⟨_, List.getElem_mem hil, decide_eq_true hov⟩)
    · have hc2 : ¬ 600 < ((ls[i].length : Nat) : Int) := by omega
      simp only [core1, fgr, execOp, opd, opds, ofValue, putT, put, nth, forgetL, doCall, builtin, one1, bor, binInt, shiftB, intOp, wrapI, gt_iff_lt, decide_true, decide_false, hx2.1.bLen t22, hc2, hwr]
      refine ih (i + 1) _ _ _ _ _ _ _ _ (by omega) ?_
      rw [List.take_add_one, List.getElem?_eq_getElem hil, Option.toList_some, List.any_append, hs]
      simp [overB, hov]
theorem f36 (v : AVal) (xs : List AVal) (ls : List (List UInt8)) (D : Nat → Prop) (h : Hp) (n : Nat) (hlen : ls.length ≤ 9223372036854775807) (hv : Rds h 1 v ls.length xs) (hel : Els h D xs ls) :
    Wp (callI env (evalW env) 36 [v, .nils]) h n fun v' h' n' => v' = .bool (greatV ls) ∧ h' = h ∧ n' = n := by
  refine wp_callI ff36 fi36 ?_
  simp only [fu36, Try.f36, Option.getD_some, List.replicate, core1, fgr, execOp, opd, opds, ofValue, putT, put, nth, forgetL, doCall, builtin, one1, ended, resultOf, oneOrTup, List.cons_append, List.nil_append, List.length_cons, List.length_nil, Nat.reduceAdd, Nat.reduceSub, Nat.zero_add, wp_pure, hv.bLen u53]
  refine loop36 _ _ v .nils xs ls D h n hlen hv hel ?_ ?_ ls.length 0 _ _ _ _ _ _ _ _ (by omega) rfl
  · intro x5 x6 x10 x17 x20 x21 x22 x30 ha
    simp only [core1, fgr, execOp, opd, opds, ofValue, putT, put, nth, forgetL, doCall, builtin, one1, blr]
    rw [run_loop]
    by_cases h150 : 150 < ls.length
    · have hc : 150 < ((ls.length : Nat) : Int) := by omega
      simp only [core1, fgr, execOp, opd, opds, ofValue, putT, put, nth, forgetL, doCall, builtin, one1, bor, binInt, shiftB, intOp, doPick, branch, List.getElem?_cons_succ, List.getElem?_cons_zero, Int.reduceLT, gt_iff_lt, decide_true, decide_false, Bool.or_true, and_self, hv.bLen u53, hc, greatV, ha, h150]
    · have hc : ¬ 150 < ((ls.length : Nat) : Int) := by omega
      simp only [core1, fgr, execOp, opd, opds, ofValue, putT, put, nth, forgetL, doCall, builtin, one1, blr, bor, binInt, shiftB, intOp, doPick, branch, List.getElem?_cons_succ, List.getElem?_cons_zero, Int.reduceLT, gt_iff_lt, decide_true, decide_false, Bool.or_false, and_self, hv.bLen u53, hc, greatV, ha, h150]
  · intro x5 x6 x10 x17 x20 x21 x22 x30 z ha
    simp only [core1, nth, Bool.true_or, and_self, greatV, ha]
/- By how many elements lists grow, plainly; a literal map of bytes. -/
def grows : List (Int × Int) := [(109, -2), (117, -1), (119, -1), (107, -1), (122, -1), (118, 1), (120, 1), (125, 1), (116, 1), (130, 1), (108, 1), (110, 2), (112, 2), (111, 3)]
def getC (k : Int) : List (Int × Int) → Int
  | [] => 0
  | e :: l => if k = e.1 then e.2 else getC k l
def byV (c : Int) (ls : List (List UInt8)) : Int := if c = 115 ∧ ls ≠ [] ∧ tv (top ls) = true then 1 else getC c grows
def movV (c : Int) : Int := if c = 107 then 1 else if c = 108 then -1 else 0
theorem frm_by {c : Int} {x : Nat × List Nat} (h : frm c = some x) : getC c grows = (x.2.length : Int) - (x.1 : Int) ∧ movV c = 0 ∧ c ≠ 115 := by
  by_cases e109 : c = 109
  · subst e109; rw [fr109] at h; injection h with h; subst h; decide
  by_cases e110 : c = 110
  · subst e110; rw [fr110] at h; injection h with h; subst h; decide
  by_cases e111 : c = 111
  · subst e111; rw [fr111] at h; injection h with h; subst h; decide
  by_cases e112 : c = 112
  · subst e112; rw [fr112] at h; injection h with h; subst h; decide
  by_cases e113 : c = 113
  · subst e113; rw [fr113] at h; injection h with h; subst h; decide
  by_cases e114 : c = 114
  · subst e114; rw [fr114] at h; injection h with h; subst h; decide
  by_cases e117 : c = 117
  · subst e117; rw [fr117] at h; injection h with h; subst h; decide
  by_cases e118 : c = 118
  · subst e118; rw [fr118] at h; injection h with h; subst h; decide
  by_cases e119 : c = 119
  · subst e119; rw [fr119] at h; injection h with h; subst h; decide
  by_cases e120 : c = 120
  · subst e120; rw [fr120] at h; injection h with h; subst h; decide
  by_cases e123 : c = 123
  · subst e123; rw [fr123] at h; injection h with h; subst h; decide
  by_cases e124 : c = 124
  · subst e124; rw [fr124] at h; injection h with h; subst h; decide
  by_cases e125 : c = 125
  · subst e125; rw [fr125] at h; injection h with h; subst h; decide
  rw [frN e109 e110 e111 e112 e113 e114 e117 e118 e119 e120 e123 e124 e125] at h; cases h
theorem outI_len {ls : List (List UInt8)} {i : Nat} (h : i < ls.length) : (outI ls i).length = ls.length - 1 := by
  unfold outI
  rw [List.length_append, List.length_take, List.length_drop]; omega
/-- What an operation that went through did to the lengths. -/
theorem counts {c : Int} {ls os : List (List UInt8)} (he : allE c ls os = 0) :
    ((allL c ls os).length : Int) = ls.length + byV c ls ∧ ((allO c ls os).length : Int) = os.length + movV c ∧ (allL c ls os).length + (allO c ls os).length ≤ 100 := by
  have hE := he
  unfold allE at he
  by_cases d1 : leastV c < 0
  · rw [if_pos d1] at he; exact absurd he (by decide)
  rw [if_neg d1] at he
  by_cases d2 : (ls.length : Int) < leastV c
  · rw [if_pos d2] at he; exact absurd he (by decide)
  rw [if_neg d2] at he
  by_cases d3 : doE c ls os = 0
  case neg => rw [if_neg d3] at he; exact absurd he d3
  rw [if_pos d3] at he
  by_cases d4 : (doL c ls os).length + (doO c ls os).length ≤ 100
  case neg => rw [if_neg d4] at he; exact absurd he (by decide)
  have hL : allL c ls os = doL c ls os := by unfold allL; rw [if_pos hE]
  have hO : allO c ls os = doO c ls os := by unfold allO; rw [if_pos hE]
  rw [hL, hO]
  refine ⟨?_, ?_, d4⟩
  · cases hf : frm c with
    | some x =>
      obtain ⟨b1, b2, b3⟩ := frm_by hf
      have hlv : leastV c = (x.1 : Nat) := by unfold leastV; rw [hf]
      unfold byV
      rw [if_neg (fun q => b3 q.1), b1]
      unfold doL
      rw [hf]
      simp only [List.length_append, List.length_take, pickL, List.length_map]
      omega
    | none =>
      have hlv : leastV c = if c = 116 ∨ c = 108 then 0 else if c = 115 ∨ c = 130 ∨ c = 107 ∨ c = 121 ∨ c = 122 then 1 else -1 := by unfold leastV; rw [hf]
      unfold doE at d3
      rw [hf] at d3
      simp only at d3
      unfold doL
      rw [hf]
      simp only
      have p1 := popL_len ls
      by_cases e107 : c = 107
      · subst e107
        have hl1 : leastV 107 = 1 := by decide
        have hb : byV 107 ls = -1 := by unfold byV; rw [if_neg (fun q => absurd q.1 (by decide))]; decide
        rw [if_pos rfl, p1, hb]; omega
      by_cases e108 : c = 108
      · subst e108
        have hb : byV 108 ls = 1 := by unfold byV; rw [if_neg (fun q => absurd q.1 (by decide))]; decide
        rw [if_neg (by decide), if_pos rfl, hb, List.length_append, List.length_singleton]; omega
      by_cases e115 : c = 115
      · subst e115
        have hl1 : leastV 115 = 1 := by decide
        have hne : ls ≠ [] := fun q => by rw [q, hl1] at d2; exact d2 (by decide)
        rw [if_neg (by decide), if_neg (by decide), if_pos rfl]
        unfold byV
        by_cases ht : tv (top ls) = true
        · rw [if_pos ht, if_pos ⟨rfl, hne, ht⟩, List.length_append, List.length_singleton]; omega
        · rw [if_neg ht, if_neg (fun q => ht q.2.2), show getC 115 grows = 0 by decide]; omega
      by_cases e116 : c = 116
      · subst e116
        have hb : byV 116 ls = 1 := by unfold byV; rw [if_neg (fun q => absurd q.1 (by decide))]; decide
        rw [if_neg (by decide), if_neg (by decide), if_neg (by decide), if_pos rfl, hb, List.length_append, List.length_singleton]; omega
      by_cases e130 : c = 130
      · subst e130
        have hb : byV 130 ls = 1 := by unfold byV; rw [if_neg (fun q => absurd q.1 (by decide))]; decide
        rw [if_neg (by decide), if_neg (by decide), if_neg (by decide), if_neg (by decide), if_pos rfl, hb, List.length_append, List.length_singleton]; omega
      rw [if_neg e107, if_neg e108, if_neg e115, if_neg e116, if_neg e130] at d3 ⊢
      rw [if_neg (by omega)] at hlv
      have hl1 : leastV c = 1 := by
        by_cases q : c = 115 ∨ c = 130 ∨ c = 107 ∨ c = 121 ∨ c = 122
        · rw [hlv, if_pos q]
        · rw [if_neg q] at hlv; omega
      have hc : c = 121 ∨ c = 122 := by
        by_cases q : c = 115 ∨ c = 130 ∨ c = 107 ∨ c = 121 ∨ c = 122
        · omega
        · rw [if_neg q] at hlv; omega
      unfold farE at d3
      by_cases n0 : numE ls = 0
      case neg => rw [if_neg n0] at d3; exact absurd d3 n0
      rw [if_pos n0] at d3
      by_cases n1 : 0 ≤ numV ls ∧ numV ls < ((popL ls).length : Nat)
      case neg => rw [if_neg n1] at d3; exact absurd d3 (by decide)
      unfold farL
      rw [List.length_append, List.length_singleton]
      rcases hc with rfl | rfl
      · have hb : byV 121 ls = 0 := by unfold byV; rw [if_neg (fun q => absurd q.1 (by decide))]; decide
        rw [hb, show decide ((121 : Int) = 122) = false from rfl]
        simp only [p1]; omega
      · have hb : byV 122 ls = -1 := by unfold byV; rw [if_neg (fun q => absurd q.1 (by decide))]; decide
        rw [hb, show decide ((122 : Int) = 122) = true from rfl]
        simp only
        rw [outI_len (by omega), p1]; omega
  · unfold doO
    cases hf : frm c with
    | some x => simp only; rw [(frm_by hf).2.1]; omega
    | none =>
      simp only
      have p1 := popL_len os
      unfold doE at d3
      rw [hf] at d3
      simp only at d3
      by_cases e107 : c = 107
      · subst e107
        rw [if_pos rfl, show movV 107 = 1 by decide, List.length_append, List.length_singleton]; omega
      by_cases e108 : c = 108
      · subst e108
        rw [if_neg (by decide), if_pos rfl] at d3
        have hne : os ≠ [] := fun q => by rw [if_pos q] at d3; exact absurd d3 (by decide)
        have := List.length_pos_iff.2 hne
        rw [if_neg (by decide), if_pos rfl, show movV 108 = -1 by decide, p1]; omega
      rw [if_neg e107, if_neg e108]
      unfold movV
      rw [if_neg e107, if_neg e108]; omega
/-- An operation that there is not, and no other, is refused as such. -/
theorem err2 {c : Int} {ls os : List (List UInt8)} : allE c ls os = 2 ↔ leastV c < 0 := by
  have d : ∀ l, decE l ≠ 2 := fun l => by rcases decE_cases l with q | ⟨q, _⟩ <;> rw [q] <;> decide
  have hn : numE ls ≠ 2 := by
    unfold numE
    split
    · decide
    · exact d _
  have hfr : farE ls ≠ 2 := by
    unfold farE
    repeat' split
    · decide
    · decide
    · exact hn
  have hd : doE c ls os ≠ 2 := by
    unfold doE
    repeat' split
    all_goals first | exact hfr | decide
  unfold allE
  constructor
  · intro h
    by_cases q : leastV c < 0
    · exact q
    · rw [if_neg q] at h
      repeat' split at h
      · exact absurd h (by decide)
      · exact absurd h (by decide)
      · exact absurd h (by decide)
      · exact absurd h hd
  · intro h; rw [if_pos h]
theorem err_keeps {c : Int} {ls os : List (List UInt8)} (he : allE c ls os ≠ 0) : allL c ls os = ls ∧ allO c ls os = os := by
  unfold allL allO
  rw [if_neg he, if_neg he]; exact ⟨rfl, rfl⟩
theorem byV_r (c : Int) (ls : List (List UInt8)) : -2 ≤ byV c ls ∧ byV c ls ≤ 3 := by
  unfold byV
  split
  · decide
  · unfold grows
    simp only [getC]
    repeat' split
    all_goals omega
/-! ### A map of bytes -/
def eb (e : Int × Int) : AVal × AVal := (.int .u8 e.1, .int .i64 e.2)
def isB (k : Int) : AVal → Bool
  | .int _ b => k == b
  | _ => false
theorem u62 : und env 62 = M.pure (.map 5 3) := rfl
theorem z2o : zeroOf env 3 = M.pure (.int .i64 0) := rfl
theorem keyB5 (k : Int) : keyB env 100 5 (.int .u8 k) = M.pure () := rfl
theorem eqTop5 (k b : Int) : equalTop env 5 (.int .u8 k) (.int .u8 b) = M.pure (isB k (.int .u8 b)) := rfl
theorem evs (k : Int) (m : List (Int × Int)) : ∀ e ∈ m.map eb, equalTop env 5 (.int .u8 k) e.1 = M.pure (isB k e.1) := fun e he => by
  obtain ⟨x, hx, rfl⟩ := List.mem_map.1 he
  exact eqTop5 k x.1
theorem at_get (k : Int) : ∀ (m : List (Int × Int)) (i : Nat), ((at_key (isB k) (m.map eb) i).map (·.2)).getD (.int .i64 0) = .int .i64 (getC k m)
  | [], _ => rfl
  | e :: m, i => by
    simp only [List.map_cons, at_key, getC]
    by_cases c : k = e.1
    · rw [if_pos c, if_pos (by simp [eb, isB, c])]; rfl
    · rw [if_neg c, if_neg (by simp [eb, isB, c])]; exact at_get k m (i + 1)
theorem map_get {h : Hp} {n id b : Nat} {m : List (Int × Int)} (hm : MapAt h id b (m.map eb)) (k : Int) : Rd (lookupM env 62 (.map id) (.int .u8 k) false) h n [id] (.int .i64 (getC k m)) := by
  have L := hm.lookup (n := n) u62 (keyB5 k) (evs k m) z2o
  rw [at_get] at L
  exact L
theorem at_new {k : Int} : ∀ {m : List (Int × Int)} {i : Nat}, (m.all fun e => !(k == e.1)) = true → at_key (isB k) (m.map eb) i = none
  | [], _, _ => rfl
  | e :: m, i, h => by
    simp only [List.all_cons, Bool.and_eq_true, Bool.not_eq_true'] at h
    simp only [List.map_cons, at_key]
    rw [if_neg (by simp only [eb, isB, h.1]; decide)]
    exact at_new h.2
theorem map_put {h : Hp} {n id b : Nat} {m : List (Int × Int)} (hm : MapAt h id b (m.map eb)) (k v : Int) (hk : (m.all fun e => !(k == e.1)) = true) :
    ∃ h2, Wr (mapUpdateM env 62 (.map id) (.int .u8 k) (.int .i64 v)) h n [id] [id] undef h2 ∧ MapAt h2 id b ((m ++ [(k, v)]).map eb) ∧ ∀ j, j ≠ id → h2 j = h j := by
  refine ⟨Go.Am.upd h id (some (.map (ents b (m.map eb) ++ [(.int .u8 k, .int .i64 v, b + (m.map eb).length)]) (b + (m.map eb).length + 1))), ?_, ?_, fun j hj => upd_ne _ _ hj⟩
  · show Wr _ h n ([] ++ [id]) [id] undef _
    simp only [mapUpdateM, u62, bind_pure]
    refine Wr.bind (Rd.get hm) ?_
    simp only [mapK, keyB5, bind_pure, find_ents _ b 0 (evs k m), at_new hk]
    exact (Wr.set hm).ret
  · unfold MapAt
    rw [upd_same, List.map_append, ents_app, List.length_append]
    rfl
end Go.Am.Ytmoplhbncjicbaa
