/- The functions that the statement reaches, gone through. -/
import Derived.Test.YtmlagocbphoedaaTgWoE
set_option linter.unusedSimpArgs false
set_option linter.unusedVariables false
set_option linter.defProp false
set_option maxRecDepth 10000
namespace Go.Am.Ytmlagocbphoedaa
open Go Go.Am Go.Proofs
set_option maxHeartbeats 16000000 in
theorem law6 (va : List AVal) (ha : Arg Try.prog 25 va) (vb : List AVal) (hb : Arg Try.prog 25 vb) : Wp (callI env (evalW env) 6 [.agg va, .agg vb]) (fun _ => none) 0 fun v _ _ => v = .bool true := by
  obtain ⟨a, la, rfl⟩ := arg_w ha
  obtain ⟨b, lb, rfl⟩ := arg_w hb
  refine wp_callI ff6 fi6 ?_
  have f0 : Free (fun _ => none) 0 := Free.none
  have f0 := (f0.new (b := some (Blk.row (Cont.l [AVal.int IntKind.u64 (wd a 0 : Nat), AVal.int IntKind.u64 (wd a 1 : Nat), AVal.int IntKind.u64 (wd a 2 : Nat), AVal.int IntKind.u64 (wd a 3 : Nat)]) 25))).new (b := some (Blk.row (Cont.l [AVal.int IntKind.u64 (wd b 0 : Nat), AVal.int IntKind.u64 (wd b 1 : Nat), AVal.int IntKind.u64 (wd b 2 : Nat), AVal.int IntKind.u64 (wd b 3 : Nat)]) 25))
  have k2 : Arr .u64 (upd (upd (fun _ => none) 0 (some (Blk.row (Cont.l [AVal.int IntKind.u64 (wd a 0 : Nat), AVal.int IntKind.u64 (wd a 1 : Nat), AVal.int IntKind.u64 (wd a 2 : Nat), AVal.int IntKind.u64 (wd a 3 : Nat)]) 25))) (0 + 1) (some (Blk.row (Cont.l [AVal.int IntKind.u64 (wd b 0 : Nat), AVal.int IntKind.u64 (wd b 1 : Nat), AVal.int IntKind.u64 (wd b 2 : Nat), AVal.int IntKind.u64 (wd b 3 : Nat)]) 25))) 0 4 (fun j => (wd a j : Nat)) := arr_W (by rw [upd_ne _ _ (by omega)]; exact upd_same _ _ _)
  have k3 : Arr .u64 (upd (upd (fun _ => none) 0 (some (Blk.row (Cont.l [AVal.int IntKind.u64 (wd a 0 : Nat), AVal.int IntKind.u64 (wd a 1 : Nat), AVal.int IntKind.u64 (wd a 2 : Nat), AVal.int IntKind.u64 (wd a 3 : Nat)]) 25))) (0 + 1) (some (Blk.row (Cont.l [AVal.int IntKind.u64 (wd b 0 : Nat), AVal.int IntKind.u64 (wd b 1 : Nat), AVal.int IntKind.u64 (wd b 2 : Nat), AVal.int IntKind.u64 (wd b 3 : Nat)]) 25))) (0 + 1) 4 (fun j => (wd b j : Nat)) := arr_W (upd_same _ _ _)
  simp only [fu6, Try.f6, Option.getD_some, List.replicate, core1, tyr, fgr, hkr, execOp, opd, opds, ofValue, putT, put, nth, forgetL, doCall, callV_func, cel, alloc, newRow, ended, resultOf, oneOrTup, List.append_eq, List.cons_append, List.nil_append, List.append_nil, List.length_cons, List.length_nil, Nat.reduceAdd, Nat.reduceSub, Nat.zero_add, wp_pure, words]
  simp only [Nat.zero_add] at f0 k2 k3
  generalize upd (upd (fun _ => none) 0 (some (Blk.row (Cont.l [AVal.int IntKind.u64 (wd a 0 : Nat), AVal.int IntKind.u64 (wd a 1 : Nat), AVal.int IntKind.u64 (wd a 2 : Nat), AVal.int IntKind.u64 (wd a 3 : Nat)]) 25))) 1 (some (Blk.row (Cont.l [AVal.int IntKind.u64 (wd b 0 : Nat), AVal.int IntKind.u64 (wd b 1 : Nat), AVal.int IntKind.u64 (wd b 2 : Nat), AVal.int IntKind.u64 (wd b 3 : Nat)]) 25)) = h0 at *
  refine opv_callf f0 (f14 _ _ f0) fun v1 h1 n1 hn1 f1 ⟨e1, o1⟩ => ?_
  subst e1
  have k2 := k2.keep (o1 _ (by omega))
  have k3 := k3.keep (o1 _ (by omega))
  simp only [core1, fgr, execOp, opd, putT, put, nth, forgetL]
  rw [opv_rd (k2.all ti25 rfl rfl), range4]
  simp only [core1, hkr, execOp, opd, opds, putT, put, nth, doCall, callV_func, List.nil_append, List.append_nil]
  refine opv_callf f1 (f23 a _ _ la f1) fun v2 h2 n2 hn2 f2 ⟨e2, o2⟩ => ?_
  subst e2
  rw [workA_eq]
  have k2 := k2.keep (o2 _ (by omega))
  have k3 := k3.keep (o2 _ (by omega))
  simp only [core1, tyr, execOp, opd, putT, put, nth, zeroOf, cel, alloc, doAlloc, newRow, extract, getO, List.getElem?_cons_succ, List.getElem?_cons_zero, W]
  refine opv_all4 (arr_0 (upd_same _ _ _)) ti25 rfl fun b6 k6 => ?_
  have k6 := pick_wd k6
  have s6 : ∀ j, j < n2 → (upd (upd h2 n2 (some (Blk.row (Cont.l [AVal.int IntKind.u64 0, AVal.int IntKind.u64 0, AVal.int IntKind.u64 0, AVal.int IntKind.u64 0]) 25))) n2 (some b6)) j = h2 j := fun j hj => by rw [upd_ne _ _ (by omega), upd_ne _ _ (by omega)]
  have f6 : Free (upd (upd h2 n2 (some (Blk.row (Cont.l [AVal.int IntKind.u64 0, AVal.int IntKind.u64 0, AVal.int IntKind.u64 0, AVal.int IntKind.u64 0]) 25))) n2 (some b6)) (n2 + 1) := f2.new.upd (by omega)
  generalize (upd (upd h2 n2 (some (Blk.row (Cont.l [AVal.int IntKind.u64 0, AVal.int IntKind.u64 0, AVal.int IntKind.u64 0, AVal.int IntKind.u64 0]) 25))) n2 (some b6)) = H6 at *
  have k2 := k2.keep (s6 _ (by omega))
  have k3 := k3.keep (s6 _ (by omega))
  simp only [core1, fgr, execOp, opd, putT, put, nth, forgetL]
  rw [opv_rd (k3.all ti25 rfl rfl), range4]
  simp only [core1, hkr, execOp, opd, opds, putT, put, nth, doCall, callV_func, List.nil_append, List.append_nil]
  refine opv_callf f6 (f23 b _ _ lb f6) fun v3 h3 n3 hn3 f3 ⟨e3, o3⟩ => ?_
  subst e3
  rw [workA_eq]
  have k2 := k2.keep (o3 _ (by omega))
  have k3 := k3.keep (o3 _ (by omega))
  have k6 := k6.keep (o3 _ (by omega))
  simp only [core1, tyr, execOp, opd, putT, put, nth, zeroOf, cel, alloc, doAlloc, newRow, extract, getO, List.getElem?_cons_succ, List.getElem?_cons_zero, W]
  refine opv_all4 (arr_0 (upd_same _ _ _)) ti25 rfl fun b8 k8 => ?_
  have k8 := pick_wd k8
  have s8 : ∀ j, j < n3 → (upd (upd h3 n3 (some (Blk.row (Cont.l [AVal.int IntKind.u64 0, AVal.int IntKind.u64 0, AVal.int IntKind.u64 0, AVal.int IntKind.u64 0]) 25))) n3 (some b8)) j = h3 j := fun j hj => by rw [upd_ne _ _ (by omega), upd_ne _ _ (by omega)]
  have f8 : Free (upd (upd h3 n3 (some (Blk.row (Cont.l [AVal.int IntKind.u64 0, AVal.int IntKind.u64 0, AVal.int IntKind.u64 0, AVal.int IntKind.u64 0]) 25))) n3 (some b8)) (n3 + 1) := f3.new.upd (by omega)
  generalize (upd (upd h3 n3 (some (Blk.row (Cont.l [AVal.int IntKind.u64 0, AVal.int IntKind.u64 0, AVal.int IntKind.u64 0, AVal.int IntKind.u64 0]) 25))) n3 (some b8)) = H8 at *
  have k2 := k2.keep (s8 _ (by omega))
  have k3 := k3.keep (s8 _ (by omega))
  have k6 := k6.keep (s8 _ (by omega))
  have ea := eq_agg0 la
  have eb := eq_agg0 lb
  have q3 : ∀ b : Bool, (b == b) = true := fun b => by cases b <;> rfl
  have gone : a = 0 ∨ b = 0 → True := fun _ => trivial
  by_cases a0 : a = 0
  · have da := decide_eq_true a0
    have ce : compE a = 50 := if_pos a0
    simp (disch := omega) only [core1, fgr, execOp, opd, ofValue, putT, put, nth, forgetL, bor, binInt, shiftB, intOp, doPick, branch, List.getElem?_cons_succ, List.getElem?_cons_zero, int_beq, int_bne, Int.reduceEq, not_false_eq_true, decide_true, decide_false, ce]
    rw [opv_rd (k2.all ti25 rfl rfl), range4]
    simp (disch := omega) only [core1, tyr, execOp, opd, ops2, putT, put, nth, sizeOf, bor, binOther, cel, getO, List.getElem?_cons_succ, List.getElem?_cons_zero, Bool.not_true, build, fill, ea, da]
    simp (disch := omega) only [core1, tyr, execOp, opd, ofValue, putT, put, nth, und, bor, binInt, shiftB, intOp, strK, aggK, doPick, branch, equalTop, equal, nilFn, nilPtr, boolOf, List.getElem?_cons_succ, List.getElem?_cons_zero, int_beq, decide_true, beq_self_eq_true]
    rw [opv_rd (k3.all ti25 rfl rfl), range4]
    by_cases b0 : b = 0
    · have db := decide_eq_true b0
      have ceb : compE b = 50 := if_pos b0
      simp (disch := omega) only [core1, tyr, execOp, opd, ops2, putT, put, nth, sizeOf, bor, binOther, cel, getO, List.getElem?_cons_succ, List.getElem?_cons_zero, Int.reduceEq, decide_false, Bool.not_true, build, fill, eb, db, ceb]
      simp (disch := omega) only [core1, tyr, fgr, execOp, opd, ofValue, putT, put, nth, forgetL, und, strK, aggK, doPick, branch, equalTop, equal, nilFn, nilPtr, boolOf, and_self, beq_self_eq_true]
    · have db := decide_eq_false b0
      have ceb : compE b = 0 := if_neg b0
      simp (disch := omega) only [core1, tyr, execOp, opd, ops2, putT, put, nth, sizeOf, bor, binOther, cel, getO, List.getElem?_cons_succ, List.getElem?_cons_zero, decide_true, Bool.not_false, build, fill, eb, db, ceb]
      simp (disch := omega) only [core1, tyr, fgr, execOp, opd, ofValue, putT, put, nth, forgetL, und, strK, aggK, doPick, branch, equalTop, equal, nilFn, nilPtr, boolOf, and_self, beq_self_eq_true]
  have da := decide_eq_false a0
  have ce : compE a = 0 := if_neg a0
  by_cases b0 : b = 0
  · have db := decide_eq_true b0
    have ceb : compE b = 50 := if_pos b0
    simp (disch := omega) only [core1, fgr, execOp, opd, ofValue, putT, put, nth, forgetL, bor, binInt, shiftB, intOp, doPick, branch, List.getElem?_cons_succ, List.getElem?_cons_zero, int_bne, Int.reduceEq, not_false_eq_true, decide_true, beq_self_eq_true, bne_self_eq_false, ce, ceb]
    rw [opv_rd (k2.all ti25 rfl rfl), range4]
    simp (disch := omega) only [core1, tyr, execOp, opd, ops2, putT, put, nth, sizeOf, bor, binOther, cel, getO, List.getElem?_cons_succ, List.getElem?_cons_zero, Bool.not_false, build, fill, ea, da]
    simp (disch := omega) only [core1, tyr, execOp, opd, ofValue, putT, put, nth, und, bor, binInt, shiftB, intOp, strK, aggK, doPick, branch, equalTop, equal, nilFn, nilPtr, boolOf, List.getElem?_cons_succ, List.getElem?_cons_zero, int_beq, Int.reduceEq, decide_true, decide_false, beq_self_eq_true]
    rw [opv_rd (k3.all ti25 rfl rfl), range4]
    simp (disch := omega) only [core1, tyr, execOp, opd, ops2, putT, put, nth, sizeOf, bor, binOther, cel, getO, List.getElem?_cons_succ, List.getElem?_cons_zero, Bool.not_true, build, fill, eb, db]
    simp (disch := omega) only [core1, tyr, fgr, execOp, opd, ofValue, putT, put, nth, forgetL, und, strK, aggK, doPick, branch, equalTop, equal, nilFn, nilPtr, boolOf, and_self, beq_self_eq_true]
  have db := decide_eq_false b0
  have ceb : compE b = 0 := if_neg b0
  have wqa : workQ a = workV a := if_neg a0
  have wqb : workQ b = workV b := if_neg b0
  have lwa := workV_lt a0
  have lwb := workV_lt b0
  rw [wqa] at k6
  rw [wqb] at k8
  simp only [core1, fgr, execOp, opd, ofValue, putT, put, nth, forgetL, bor, binInt, shiftB, intOp, unOp, doPick, branch, List.getElem?_cons_succ, List.getElem?_cons_zero, decide_true, Bool.not_true, bne_self_eq_false, ce, ceb]
  rw [opv_rd (k2.all ti25 rfl rfl), range4]
  simp only [core1, execOp, opd, putT, put, nth]
  rw [opv_rd (k3.all ti25 rfl rfl), range4]
  simp only [core1, hkr, execOp, opd, opds, putT, put, nth, doCall, callV_func, List.nil_append, List.append_nil]
  refine opv_callf f8 (f17c a b _ _ la lb f8) fun v4 h4 n4 hn4 f4 ⟨e4, o4⟩ => ?_
  subst e4
  have k2 := k2.keep (o4 _ (by omega))
  have k3 := k3.keep (o4 _ (by omega))
  have k6 := k6.keep (o4 _ (by omega))
  have k8 := k8.keep (o4 _ (by omega))
  have F1 : ∀ (H : Hp) (m : Nat), Free H m → Wp (callI env (evalW env) 17 [W (workV a), W (workV b)]) H m fun v' h' n' => v' = .int .i64 (cmpW (workV a) (workV b)) ∧ Old H h' m := fun H m hf => f17c _ _ H m lwa lwb hf
  have m1 : a ≤ b → ¬ cmpW (workV a) (workV b) < 0 := fun q => of_decide_eq_false ((cmpW_lt _ _).trans (decide_eq_false (by have := workV_mono q; omega)))
  have m2 : b ≤ a → ¬ 0 < cmpW (workV a) (workV b) := fun q => of_decide_eq_false ((cmpW_gt _ _).trans (decide_eq_false (by have := workV_mono q; omega)))
  by_cases c1 : a ≤ b
  case' pos =>
    have x1 : cmpW a b ≤ 0 := of_decide_eq_true ((cmpW_le a b).trans (decide_eq_true c1))
    have m1 := m1 c1
    simp only [core1, execOp, opd, ofValue, putT, put, nth, bor, binInt, shiftB, intOp, List.getElem?_cons_succ, List.getElem?_cons_zero, decide_true, x1]
    rw [opv_rd (k6.all ti25 rfl rfl), range4]
    simp only [core1, execOp, opd, putT, put, nth, List.getElem?_cons_succ, List.getElem?_cons_zero]
    rw [opv_rd (k8.all ti25 rfl rfl), range4]
    simp only [core1, hkr, execOp, opd, opds, putT, put, nth, doCall, callV_func, List.getElem?_cons_succ, List.getElem?_cons_zero, List.nil_append, List.append_nil]
    refine opv_callf f4 (F1 _ _ f4) fun v5 h5 n5 hn5 f5 ⟨e5, o5⟩ => ?_
    subst e5
    simp only [core1, execOp, opd, ofValue, putT, put, nth, bor, binInt, shiftB, intOp, doPick, branch, List.getElem?_cons_succ, List.getElem?_cons_zero, decide_true, decide_false, m1]
  case' neg =>
    have x1 : ¬ cmpW a b ≤ 0 := of_decide_eq_false ((cmpW_le a b).trans (decide_eq_false c1))
    obtain ⟨h5, eh5⟩ : ∃ h5, h5 = h4 := ⟨_, rfl⟩
    obtain ⟨n5, en5⟩ : ∃ n5, n5 = n4 := ⟨_, rfl⟩
    have hn5 : n4 ≤ n5 := by omega
    have f5 : Free h5 n5 := by rw [eh5, en5]; exact f4
    have o5 : Old h4 h5 n4 := by rw [eh5]; exact Old.refl _ _
    rw [← eh5, ← en5]
    simp only [core1, execOp, opd, ofValue, putT, put, nth, bor, binInt, shiftB, intOp, doPick, branch, List.getElem?_cons_succ, List.getElem?_cons_zero, decide_true, decide_false, x1]
  all_goals
    have k2 := k2.keep (o5 _ (by omega))
    have k3 := k3.keep (o5 _ (by omega))
    have k6 := k6.keep (o5 _ (by omega))
    have k8 := k8.keep (o5 _ (by omega))
    rw [opv_rd (k2.all ti25 rfl rfl), range4]
    simp only [core1, execOp, opd, putT, put, nth, List.getElem?_cons_succ, List.getElem?_cons_zero]
    rw [opv_rd (k3.all ti25 rfl rfl), range4]
    simp only [core1, hkr, execOp, opd, opds, putT, put, nth, doCall, callV_func, List.getElem?_cons_succ, List.getElem?_cons_zero, List.nil_append, List.append_nil]
    refine opv_callf f5 (f17c a b _ _ la lb f5) fun v6 h7 n7 hn7 f7 ⟨e7, o7⟩ => ?_
    subst e7
    have k2 := k2.keep (o7 _ (by omega))
    have k3 := k3.keep (o7 _ (by omega))
    have k6 := k6.keep (o7 _ (by omega))
    have k8 := k8.keep (o7 _ (by omega))
    by_cases c2 : b ≤ a
    case' pos =>
      have x2 : 0 ≤ cmpW a b := of_decide_eq_true ((cmpW_ge a b).trans (decide_eq_true c2))
      have m2 := m2 c2
      simp only [core1, execOp, opd, ofValue, putT, put, nth, bor, binInt, shiftB, intOp, List.getElem?_cons_succ, List.getElem?_cons_zero, ge_iff_le, decide_true, x2]
      rw [opv_rd (k6.all ti25 rfl rfl), range4]
      simp only [core1, execOp, opd, putT, put, nth, List.getElem?_cons_succ, List.getElem?_cons_zero]
      rw [opv_rd (k8.all ti25 rfl rfl), range4]
      simp only [core1, hkr, execOp, opd, opds, putT, put, nth, doCall, callV_func, List.getElem?_cons_succ, List.getElem?_cons_zero, List.nil_append, List.append_nil]
      refine opv_callf f7 (F1 _ _ f7) fun v8 h9 n9 hn9 f9 ⟨e9, o9⟩ => ?_
      subst e9
      simp only [core1, fgr, execOp, opd, ofValue, putT, put, nth, forgetL, bor, binInt, shiftB, intOp, doPick, branch, List.getElem?_cons_succ, List.getElem?_cons_zero, gt_iff_lt, decide_true, decide_false, m2]
    case' neg =>
      have x2 : ¬ 0 ≤ cmpW a b := of_decide_eq_false ((cmpW_ge a b).trans (decide_eq_false c2))
      obtain ⟨h9, eh9⟩ : ∃ h9, h9 = h7 := ⟨_, rfl⟩
      obtain ⟨n9, en9⟩ : ∃ n9, n9 = n7 := ⟨_, rfl⟩
      have hn9 : n7 ≤ n9 := by omega
      have f9 : Free h9 n9 := by rw [eh9, en9]; exact f7
      have o9 : Old h7 h9 n7 := by rw [eh9]; exact Old.refl _ _
      rw [← eh9, ← en9]
      simp only [core1, fgr, execOp, opd, ofValue, putT, put, nth, forgetL, bor, binInt, shiftB, intOp, doPick, branch, List.getElem?_cons_succ, List.getElem?_cons_zero, ge_iff_le, decide_true, decide_false, x2]
    all_goals
      have k2 := k2.keep (o9 _ (by omega))
      have k6 := k6.keep (o9 _ (by omega))
      clear k3 k8
      refine run_draw.2 ⟨rfl, ?_⟩
      simp only [fe_cons, execOp, opd, nth]
      rw [fev_rd (k2.all ti25 rfl rfl), range4]
      simp only [fe_cons, hkr, execOp, opd, opds, ofValue, putT, put, doCall, callV_func, List.nil_append, List.append_nil, Nat.zero_add]
      refine fev_free f9 (f19 1 _ _ (by decide)) (f19 1 _ _ (by decide)) fun v3 g3 p3 hp3 hg3 ⟨e3, x3⟩ => ?_
      subst e3
      simp only [fe_cons, hkr, execOp, opd, opds, putT, put, nth, doCall, callV_func, List.nil_append, List.append_nil, Nat.reduceAdd]
      refine fev_free hg3 (f27 a 1 _ _ la (by decide) Free.none) (f27 a 1 _ _ la (by decide) hg3) fun v4 g4 p4 hp4 hg4 ⟨e4, x4⟩ => ?_
      subst e4
      simp only [fe_cons, fev_pure, core1, tyr, execOp, opd, putT, put, nth, zeroOf, cel, alloc, doAlloc, newRow, extract, getO, List.getElem?_cons_succ, List.getElem?_cons_zero, Nat.reduceAdd, W]
      refine fev_free hg4 (al25 _ _) (al25 _ _) fun v5 g5 p5 hp5 hg5 ⟨e5, a5, x5, em5⟩ => ?_
      subst e5; subst em5
      simp only [fe_cons, execOp, opd, putT, put, nth, Nat.reduceAdd]
      refine fev_all4 a5 ti25 rfl fun b10 k10 => ?_
      have k10 := pick_wd k10
      simp only [fe_nil, fe_cons, fev_pure, core1, fgr, execOp, opd, putT, put, nth, forgetL, Nat.reduceAdd]
      refine ⟨(by (try simp (disch := omega) only [fine, List.all_cons, List.all_nil, clash_pl, clash_pr, Bool.not_false, Bool.true_or, Bool.and_true, Bool.true_and, clash_rw, clash_nn, clash_nw, clash_xn]); repeat' (first | rfl | exact (Bool.or_eq_true _ _).mpr (.inr rfl) | refine (Bool.and_eq_true _ _).mpr ⟨?_, ?_⟩)), ?_⟩
      have s10 : ∀ j, j < n9 → (upd g5 p4 (some b10)) j = h9 j := fun j hj => by
        rw [upd_ne _ _ (by omega), x5 j (by omega), x4 j (by omega), x3 j (by omega)]
      have f10 : Free (upd g5 p4 (some b10)) (p4 + 1) := hg5.upd (by omega)
      generalize upd g5 p4 (some b10) = H10 at *
      have k6 := k6.keep (s10 _ (by omega))
      by_cases ov : b256 ≤ a + 1
      · have od := decide_eq_true ov
        have e : workV a = 1 := by unfold workV; rw [show a + 1 = b256 by omega]; decide
        rw [e] at k6
        have ee := eq_agg (a := 1) (b := 1) (by decide) (by decide)
        simp only [core1, od]
        refine run_draw.2 ⟨rfl, ?_⟩
        simp only [fe_cons, fe_guard, fego_some, feg_bool, feg_tt, fev_pure, execOp, opd, putT, put, nth, List.getElem?_cons_succ, List.getElem?_cons_zero, Nat.reduceAdd, Nat.zero_add]
        rw [fev_rd (k6.all ti25 rfl rfl), range4]
        simp only [fe_guard, fego_some, feg_bool, feg_tt, hkr, execOp, opd, opds, ofValue, putT, put, nth, doCall, callV_func, List.getElem?_cons_succ, List.getElem?_cons_zero, List.nil_append, List.append_nil, Nat.reduceAdd]
        refine fev_free f10 (f19 1 _ _ (by decide)) (f19 1 _ _ (by decide)) fun v3 g7 p7 hp7 hg7 ⟨e3, x7⟩ => ?_
        subst e3
        simp only [fe_nil, fe_cons, fe_guard, fego_some, feg_bool, feg_tt, fev_ask, fev_pure, core1, fgr, execOp, opd, ofValue, putT, put, nth, forgetL, bor, binOther, doPick, branch, List.getElem?_cons_succ, List.getElem?_cons_zero, Nat.reduceAdd, decide_true, and_true, and_self, W, ee, decide_true]
        first | exact (by (try simp (disch := omega) only [fine, List.all_cons, List.all_nil, clash_pl, clash_pr, clash_rr, Bool.not_false, Bool.true_or, Bool.and_true, clash_xn]); repeat' (first | rfl | exact (Bool.or_eq_true _ _).mpr (.inr rfl) | refine (Bool.and_eq_true _ _).mpr ⟨?_, ?_⟩)) | refine ⟨(by (try simp (disch := omega) only [fine, List.all_cons, List.all_nil, clash_pl, clash_pr, clash_rr, Bool.not_false, Bool.true_or, Bool.and_true, Bool.true_and, clash_rw, clash_wr, clash_ww, clash_nn, clash_nw, clash_xn, clash_nx]); repeat' (first | rfl | exact (Bool.or_eq_true _ _).mpr (.inr rfl) | refine (Bool.and_eq_true _ _).mpr ⟨?_, ?_⟩)), ?_⟩
      have od := decide_eq_false ov
      rw [Nat.mod_eq_of_lt (by omega)] at k10
      simp only [core1, execOp, opd, nth, od]
      rw [opv_rd (k6.all ti25 rfl rfl), range4]
      simp only [core1, execOp, opd, putT, put, nth]
      rw [opv_rd (k10.all ti25 rfl rfl), range4]
      simp only [core1, hkr, execOp, opd, opds, putT, put, nth, doCall, callV_func, List.nil_append, List.append_nil]
      refine opv_callf f10 (f28 (workV a) (a + 1) _ _ lwa (by omega) f10) fun v8 h11 n11 hn11 f11 ⟨e8, o11⟩ => ?_
      subst e8
      have k10 := k10.keep (o11 _ (by omega))
      clear k2 k6
      obtain ⟨w1, w2⟩ := work_prod a
      generalize workV a * (a + 1) = P at *
      simp only [core1, tyr, execOp, opd, putT, put, nth, zeroOf, cel, alloc, doAlloc, newRow, extract, getO, List.getElem?_cons_succ, List.getElem?_cons_zero, W]
      refine opv_all4 (arr_0 (by rw [upd_ne _ _ (by omega)]; exact upd_same _ _ _)) ti25 rfl fun b12 k12 => ?_
      simp only [core1, execOp, opd, putT, nth]
      refine opv_all4 (arr_0 (by rw [upd_ne _ _ (by omega)]; exact upd_same _ _ _)) ti25 rfl fun b13 k13 => ?_
      have k12 := (pick_wd k12).upd (i := n11 + 1) (b := some b13) (by omega)
      have k13 := pick_wd k13
      have k10 := k10.keep (h' := upd (upd (upd (upd h11 n11 (some (Blk.row (Cont.l [AVal.int IntKind.u64 0, AVal.int IntKind.u64 0, AVal.int IntKind.u64 0, AVal.int IntKind.u64 0]) 25))) (n11 + 1) (some (Blk.row (Cont.l [AVal.int IntKind.u64 0, AVal.int IntKind.u64 0, AVal.int IntKind.u64 0, AVal.int IntKind.u64 0]) 25))) n11 (some b12)) (n11 + 1) (some b13)) (by simp (disch := omega) only [upd_ne])
      have f12 : Free (upd (upd (upd (upd h11 n11 (some (Blk.row (Cont.l [AVal.int IntKind.u64 0, AVal.int IntKind.u64 0, AVal.int IntKind.u64 0, AVal.int IntKind.u64 0]) 25))) (n11 + 1) (some (Blk.row (Cont.l [AVal.int IntKind.u64 0, AVal.int IntKind.u64 0, AVal.int IntKind.u64 0, AVal.int IntKind.u64 0]) 25))) n11 (some b12)) (n11 + 1) (some b13)) (n11 + 1 + 1) := ((f11.new.new).upd (by omega)).upd (by omega)
      generalize upd (upd (upd (upd h11 n11 (some (Blk.row (Cont.l [AVal.int IntKind.u64 0, AVal.int IntKind.u64 0, AVal.int IntKind.u64 0, AVal.int IntKind.u64 0]) 25))) (n11 + 1) (some (Blk.row (Cont.l [AVal.int IntKind.u64 0, AVal.int IntKind.u64 0, AVal.int IntKind.u64 0, AVal.int IntKind.u64 0]) 25))) n11 (some b12)) (n11 + 1) (some b13) = H12 at *
      simp only [core1, fgr, putT, forgetL]
      clear F1
      have e00 := eq_agg0 (a := 0) (by decide)
      have e01 := eq_agg0 (a := 1) (by decide)
      have e11 := eq_agg (a := 1) (b := 1) (by decide) (by decide)
      have d00 : decide ((0 : Nat) = 0) = true := rfl
      have d10 : decide ((1 : Nat) = 0) = false := rfl
      have hb0 : build env 25 [] = M.pure (W 0) := rfl
      refine run_draw.2 ⟨rfl, ?_⟩
      by_cases hz : P < b256
      · rw [Nat.mod_eq_of_lt hz] at k12
        rw [Nat.div_eq_of_lt hz] at k13
        have od := decide_eq_true (show b256 ≤ P + (a + 1) by omega)
        have hl : (P + (a + 1)) % b256 < b256 := Nat.mod_lt _ (by decide)
        have el := eq_agg0 hl
        have dl := decide_eq_false (show ¬ (P + (a + 1)) % b256 = 0 by unfold b256 at *; omega)
        have r1 : (0 + 1) % b256 = 1 := by decide
        simp only [fe_cons, execOp, opd, nth]
        rw [fev_rd (k13.all ti25 rfl rfl), range4]
        simp only [fe_nil, fe_cons, fe_guard, fego_some, feg_bool, feg_ft, feg_un, fev_ask, fev_pure, core1, fgr, execOp, opd, ofValue, ops2, putT, put, nth, forgetL, bor, binOther, doPick, branch, List.getElem?_cons_succ, List.getElem?_cons_zero, Nat.reduceAdd, decide_true, Nat.zero_add, hb0, W0, e00]
        refine ⟨(by (try simp (disch := omega) only [fine, List.all_cons, List.all_nil, clash_pr, Bool.not_false, Bool.true_or, Bool.and_true]); repeat' (first | rfl | exact (Bool.or_eq_true _ _).mpr (.inr rfl) | refine (Bool.and_eq_true _ _).mpr ⟨?_, ?_⟩)), ?_⟩
        rw [opv_rd (k12.all ti25 rfl rfl), range4]
        simp only [core1, execOp, opd, putT, put, nth]
        rw [opv_rd (k10.all ti25 rfl rfl), range4]
        simp only [core1, hkr, execOp, opd, opds, putT, put, nth, doCall, callV_func, List.nil_append, List.append_nil]
        refine opv_callf f12 (f27 P (a + 1) _ _ hz (by omega) f12) fun v5 g5 p5 hp5 hg5 ⟨e5, x5⟩ => ?_
        subst e5
        have k13 := k13.keep (x5 _ (by omega))
        simp only [core1, execOp, opd, putT, put, nth, extract, getO, List.getElem?_cons_succ, List.getElem?_cons_zero, W, od]
        refine opv_all4 (k12.keep (x5 _ (by omega))) ti25 rfl fun b14 k12 => ?_
        have k12 := pick_wd k12
        have k13 := k13.upd (i := n11) (b := some b14) (by omega)
        have f14 := hg5.upd (i := n11) (b := some b14) (by omega)
        simp only [core1, fgr, execOp, opd, putT, put, nth, forgetL]
        refine run_draw.2 ⟨rfl, ?_⟩
        simp only [fe_cons, execOp, opd, nth]
        rw [fev_rd (k13.all ti25 rfl rfl), range4]
        simp only [fe_cons, hkr, execOp, opd, opds, ofValue, putT, put, doCall, callV_func, List.nil_append, List.append_nil, Nat.zero_add]
        refine fev_free f14 (f19 1 _ _ (by decide)) (f19 1 _ _ (by decide)) fun v6 g6 p6 hp6 hg6 ⟨e6, x6⟩ => ?_
        subst e6
        simp only [fe_cons, hkr, execOp, opd, opds, putT, put, nth, doCall, callV_func, List.nil_append, List.append_nil, Nat.reduceAdd]
        refine fev_free hg6 (f27 0 1 _ _ (by decide) (by decide) Free.none) (f27 0 1 _ _ (by decide) (by decide) hg6) fun v7 g7 p7 hp7 hg7 ⟨e7, x7⟩ => ?_
        subst e7
        rw [r1]
        simp only [fe_cons, fev_pure, execOp, opd, putT, put, nth, extract, getO, List.getElem?_cons_succ, List.getElem?_cons_zero, Nat.reduceAdd, Nat.zero_add, W]
        refine fev_all4 ((k13.keep (x6 _ (by omega))).keep (x7 _ (by omega))) ti25 rfl fun b15 k13 => ?_
        have k13 := pick_wd k13
        have k12 := ((k12.keep (x6 _ (by omega))).keep (x7 _ (by omega))).upd (i := n11 + 1) (b := some b15) (by omega)
        have f15 := hg7.upd (i := n11 + 1) (b := some b15) (by omega)
        simp only [fe_nil, core1, fgr, putT, forgetL, Nat.reduceAdd]
        refine ⟨(by (try simp (disch := omega) only [fine, List.all_cons, List.all_nil, clash_pl, clash_pr, Bool.not_false, Bool.true_or, Bool.and_true, Bool.true_and, clash_rw, clash_nn, clash_nw, clash_xn]); repeat' (first | rfl | exact (Bool.or_eq_true _ _).mpr (.inr rfl) | refine (Bool.and_eq_true _ _).mpr ⟨?_, ?_⟩)), ?_⟩
        refine run_draw.2 ⟨rfl, ?_⟩
        simp only [fe_cons, fe_guard, fego_some, feg_bool, feg_tt, fev_ask, fev_pure, execOp, opd, ofValue, putT, put, nth, doPick, branch, List.getElem?_cons_succ, List.getElem?_cons_zero, Nat.reduceAdd, Nat.zero_add]
        rw [fev_rd (k13.all ti25 rfl rfl), range4]
        simp only [fe_cons, fe_guard, fego_some, feg_bool, feg_tt, fev_ask, fev_pure, core1, execOp, opd, ofValue, ops2, putT, put, nth, bor, binOther, doPick, branch, List.getElem?_cons_succ, List.getElem?_cons_zero, Nat.reduceAdd, decide_false, Bool.not_false, reduceCtorEq, hb0, W0, e01]
        rw [fev_rd (k13.all ti25 rfl rfl), range4]
        simp only [fe_guard, fego_some, feg_bool, feg_tt, hkr, execOp, opd, opds, ofValue, putT, put, nth, doCall, callV_func, List.getElem?_cons_succ, List.getElem?_cons_zero, List.nil_append, List.append_nil, Nat.reduceAdd]
        refine fev_free f15 (f19 1 _ _ (by decide)) (f19 1 _ _ (by decide)) fun v8 g8 p8 hp8 hg8 ⟨e8, x8⟩ => ?_
        subst e8
        have k12 := k12.keep (x8 _ (by omega))
        simp only [fe_guard, fego_some, feg_bool, feg_tt, feg_ff, fev_pure, core1, execOp, opd, putT, put, nth, bor, binOther, List.getElem?_cons_succ, List.getElem?_cons_zero, Nat.reduceAdd, decide_true, Bool.not_true, W, e11, decide_true]
        rw [fev_rd (k12.all ti25 rfl rfl), range4]
        simp only [fe_nil, fe_cons, fe_guard, fego_some, feg_bool, feg_tt, feg_ff, fev_ask, fev_pure, core1, fgr, execOp, opd, ofValue, ops2, putT, put, nth, forgetL, bor, binOther, doPick, branch, List.getElem?_cons_succ, List.getElem?_cons_zero, Nat.reduceAdd, Bool.not_false, and_true, and_self, hb0, W0, el, dl]
        first | exact (by (try simp (disch := omega) only [fine, List.all_cons, List.all_nil, clash_pl, clash_pr, clash_rr, Bool.not_false, Bool.true_or, Bool.and_true, clash_xn, clash_nx]); repeat' (first | rfl | exact (Bool.or_eq_true _ _).mpr (.inr rfl) | refine (Bool.and_eq_true _ _).mpr ⟨?_, ?_⟩)) | refine ⟨(by (try simp (disch := omega) only [fine, List.all_cons, List.all_nil, clash_pl, clash_pr, clash_rr, Bool.not_false, Bool.true_or, Bool.and_true, Bool.true_and, clash_rw, clash_wr, clash_ww, clash_nn, clash_nw, clash_xn, clash_nx]); repeat' (first | rfl | exact (Bool.or_eq_true _ _).mpr (.inr rfl) | refine (Bool.and_eq_true _ _).mpr ⟨?_, ?_⟩)), ?_⟩
      · have hP : P = b256 := by omega
        subst hP
        rw [Nat.mod_self] at k12
        rw [Nat.div_self (by decide)] at k13
        have r1 : (0 + (a + 1)) % b256 = a + 1 := by rw [Nat.zero_add, Nat.mod_eq_of_lt (by omega)]
        have od := decide_eq_false (show ¬ b256 ≤ a + 1 by omega)
        have el := eq_agg0 (a := a + 1) (by omega)
        have dl := decide_eq_false (show ¬ a + 1 = 0 by omega)
        simp only [fe_cons, execOp, opd, nth]
        rw [fev_rd (k13.all ti25 rfl rfl), range4]
        simp only [fe_cons, fe_guard, fego_some, feg_bool, feg_ff, fev_pure, core1, execOp, opd, ops2, putT, put, nth, bor, binOther, List.getElem?_cons_succ, List.getElem?_cons_zero, Nat.reduceAdd, decide_false, Nat.zero_add, reduceCtorEq, hb0, W0, e01]
        rw [fev_rd (k13.all ti25 rfl rfl), range4]
        simp only [fe_guard, fego_some, feg_bool, feg_ff, hkr, execOp, opd, opds, ofValue, putT, put, nth, doCall, callV_func, List.getElem?_cons_succ, List.getElem?_cons_zero, List.nil_append, List.append_nil, Nat.reduceAdd]
        refine fev_free f12 (f19 1 _ _ (by decide)) (f19 1 _ _ (by decide)) fun v8 g8 p8 hp8 hg8 ⟨e8, x8⟩ => ?_
        subst e8
        have k12 := k12.keep (x8 _ (by omega))
        have k10 := k10.keep (x8 _ (by omega))
        have k13 := k13.keep (x8 _ (by omega))
        simp only [fe_guard, fego_some, feg_bool, feg_tt, feg_ff, fev_pure, core1, execOp, opd, putT, put, nth, bor, binOther, List.getElem?_cons_succ, List.getElem?_cons_zero, Nat.reduceAdd, decide_true, W, e11, decide_true]
        rw [fev_rd (k12.all ti25 rfl rfl), range4]
        simp only [fe_nil, fe_cons, fe_guard, fego_some, feg_bool, feg_tt, feg_ff, fev_ask, fev_pure, core1, fgr, execOp, opd, ofValue, ops2, putT, put, nth, forgetL, bor, binOther, doPick, branch, List.getElem?_cons_succ, List.getElem?_cons_zero, Nat.reduceAdd, decide_true, hb0, W0, e00]
        refine ⟨(by (try simp (disch := omega) only [fine, List.all_cons, List.all_nil, clash_pl, clash_pr, clash_rr, Bool.not_false, Bool.true_or, Bool.and_true, clash_xn, clash_nx]); repeat' (first | rfl | exact (Bool.or_eq_true _ _).mpr (.inr rfl) | refine (Bool.and_eq_true _ _).mpr ⟨?_, ?_⟩)), ?_⟩
        rw [opv_rd (k12.all ti25 rfl rfl), range4]
        simp only [core1, execOp, opd, putT, put, nth]
        rw [opv_rd (k10.all ti25 rfl rfl), range4]
        simp only [core1, hkr, execOp, opd, opds, putT, put, nth, doCall, callV_func, List.nil_append, List.append_nil]
        refine opv_callf hg8 (f27 0 (a + 1) _ _ (by decide) (by omega) hg8) fun v5 g5 p5 hp5 hg5 ⟨e5, x5⟩ => ?_
        subst e5
        rw [r1]
        have k13 := k13.keep (x5 _ (by omega))
        simp only [core1, execOp, opd, putT, put, nth, extract, getO, List.getElem?_cons_succ, List.getElem?_cons_zero, Nat.zero_add, W, od]
        refine opv_all4 (k12.keep (x5 _ (by omega))) ti25 rfl fun b14 k12 => ?_
        have k12 := pick_wd k12
        have k13 := k13.upd (i := n11) (b := some b14) (by omega)
        have f14 := hg5.upd (i := n11) (b := some b14) (by omega)
        simp only [core1, fgr, execOp, opd, putT, put, nth, forgetL]
        refine run_draw.2 ⟨rfl, ?_⟩
        simp only [fe_cons, fe_guard, fego_some, feg_bool, feg_tt, fev_ask, fev_pure, execOp, opd, ofValue, putT, put, nth, doPick, branch, List.getElem?_cons_succ, List.getElem?_cons_zero, Nat.reduceAdd, Nat.zero_add]
        rw [fev_rd (k13.all ti25 rfl rfl), range4]
        simp only [fe_cons, fe_guard, fego_some, feg_bool, feg_tt, fev_ask, fev_pure, core1, execOp, opd, ofValue, ops2, putT, put, nth, bor, binOther, doPick, branch, List.getElem?_cons_succ, List.getElem?_cons_zero, Nat.reduceAdd, decide_false, Bool.not_false, reduceCtorEq, hb0, W0, e01]
        rw [fev_rd (k13.all ti25 rfl rfl), range4]
        simp only [fe_guard, fego_some, feg_bool, feg_tt, hkr, execOp, opd, opds, ofValue, putT, put, nth, doCall, callV_func, List.getElem?_cons_succ, List.getElem?_cons_zero, List.nil_append, List.append_nil, Nat.reduceAdd]
        refine fev_free f14 (f19 1 _ _ (by decide)) (f19 1 _ _ (by decide)) fun v9 g9 p9 hp9 hg9 ⟨e9, x9⟩ => ?_
        subst e9
        have k12 := k12.keep (x9 _ (by omega))
        simp only [fe_guard, fego_some, feg_bool, feg_tt, feg_ff, fev_pure, core1, execOp, opd, putT, put, nth, bor, binOther, List.getElem?_cons_succ, List.getElem?_cons_zero, Nat.reduceAdd, decide_true, Bool.not_true, W, e11, decide_true]
        rw [fev_rd (k12.all ti25 rfl rfl), range4]
        simp only [fe_nil, fe_cons, fe_guard, fego_some, feg_bool, feg_tt, feg_ff, fev_ask, fev_pure, core1, fgr, execOp, opd, ofValue, ops2, putT, put, nth, forgetL, bor, binOther, doPick, branch, List.getElem?_cons_succ, List.getElem?_cons_zero, Nat.reduceAdd, decide_false, Bool.not_false, and_true, and_self, reduceCtorEq, hb0, W0, el]
        first | exact (by (try simp (disch := omega) only [fine, List.all_cons, List.all_nil, clash_pl, clash_pr, clash_rr, Bool.not_false, Bool.true_or, Bool.and_true, clash_xn, clash_nx]); repeat' (first | rfl | exact (Bool.or_eq_true _ _).mpr (.inr rfl) | refine (Bool.and_eq_true _ _).mpr ⟨?_, ?_⟩)) | refine ⟨(by (try simp (disch := omega) only [fine, List.all_cons, List.all_nil, clash_pl, clash_pr, clash_rr, Bool.not_false, Bool.true_or, Bool.and_true, Bool.true_and, clash_rw, clash_wr, clash_ww, clash_nn, clash_nw, clash_xn, clash_nx]); repeat' (first | rfl | exact (Bool.or_eq_true _ _).mpr (.inr rfl) | refine (Bool.and_eq_true _ _).mpr ⟨?_, ?_⟩)), ?_⟩
/- Scaled targets: the statement. -/
def noSc (t by_ of most : Nat) : Prop := t = 0 ∨ most = 0 ∨ okB by_ = false ∨ okB of = false
instance (t by_ of most : Nat) : Decidable (noSc t by_ of most) := by unfold noSc; exact inferInstance
theorem hb0 : build env 25 [] = M.pure (W 0) := rfl
end Go.Am.Ytmlagocbphoedaa
