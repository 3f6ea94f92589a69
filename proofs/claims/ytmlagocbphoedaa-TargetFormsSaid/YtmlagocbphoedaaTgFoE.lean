/- The functions that the statement reaches, gone through. -/
import Derived.Test.YtmlagocbphoedaaTgFoD
set_option linter.unusedSimpArgs false
set_option linter.unusedVariables false
set_option linter.defProp false
set_option maxRecDepth 10000
namespace Go.Am.Ytmlagocbphoedaa
open Go Go.Am Go.Proofs
set_option maxHeartbeats 8000000 in
theorem law5 (c : Int) (wc : (Lit.int .u32 c).wf = true) (vt : List AVal) (ht : Arg Try.prog 25 vt) (vh : List AVal) (hh : Arg Try.prog 47 vh) : Wp (callI env (evalW env) 5 [.int .u32 c, .agg vt, .agg vh]) (fun _ => none) 0 fun v _ _ => v = .bool true := by
  obtain ⟨t, lt, rfl⟩ := arg_w ht
  obtain ⟨g, hg, rfl⟩ := arg_hash hh
  obtain ⟨c, lc, rfl⟩ := wf_nat32 wc
  refine wp_callI ff5 fi5 ?_
  have f0 : Free (fun _ => none) 0 := Free.none
  have f0 := (f0.new (b := some (Blk.row (Cont.l [AVal.int IntKind.u64 (wd t 0 : Nat), AVal.int IntKind.u64 (wd t 1 : Nat), AVal.int IntKind.u64 (wd t 2 : Nat), AVal.int IntKind.u64 (wd t 3 : Nat)]) 25))).new (b := some (Blk.row (Cont.l (cellsF .u8 32 (fun j => (g j : Nat)))) 47))
  simp only [fu5, Try.f5, Option.getD_some, List.replicate, core1, tyr, fgr, hkr, execOp, opd, opds, ofValue, putT, put, nth, forgetL, doCall, callV_func, cel, alloc, newRow, ended, resultOf, oneOrTup, List.append_eq, List.cons_append, List.nil_append, List.append_nil, List.length_cons, List.length_nil, Nat.reduceAdd, Nat.reduceSub, Nat.zero_add, wp_pure, words]
  have k4 : Arr .u64 (upd (upd (fun _ => none) 0 (some (Blk.row (Cont.l [AVal.int IntKind.u64 (wd t 0 : Nat), AVal.int IntKind.u64 (wd t 1 : Nat), AVal.int IntKind.u64 (wd t 2 : Nat), AVal.int IntKind.u64 (wd t 3 : Nat)]) 25))) (0 + 1) (some (Blk.row (Cont.l (cellsF .u8 32 (fun j => (g j : Nat)))) 47))) 0 4 (fun j => (wd t j : Nat)) := arr_W (by rw [upd_ne _ _ (by omega)]; exact upd_same _ _ _)
  have k5 : Arr .u8 (upd (upd (fun _ => none) 0 (some (Blk.row (Cont.l [AVal.int IntKind.u64 (wd t 0 : Nat), AVal.int IntKind.u64 (wd t 1 : Nat), AVal.int IntKind.u64 (wd t 2 : Nat), AVal.int IntKind.u64 (wd t 3 : Nat)]) 25))) (0 + 1) (some (Blk.row (Cont.l (cellsF .u8 32 (fun j => (g j : Nat)))) 47))) (0 + 1) 32 (fun j => (g j : Nat)) := arr_cells (upd_same _ _ _)
  simp only [Nat.zero_add] at f0 k4 k5
  generalize upd (upd (fun _ => none) 0 (some (Blk.row (Cont.l [AVal.int IntKind.u64 (wd t 0 : Nat), AVal.int IntKind.u64 (wd t 1 : Nat), AVal.int IntKind.u64 (wd t 2 : Nat), AVal.int IntKind.u64 (wd t 3 : Nat)]) 25))) 1 (some (Blk.row (Cont.l (cellsF .u8 32 (fun j => (g j : Nat)))) 47)) = h0 at *
  refine opv_callf f0 (f16 c _ _ lc f0) fun v1 h1 n1 hn1 f1 ⟨e1, o1⟩ => ?_
  subst e1
  rw [expA_eq]
  simp only [core1, tyr, execOp, opd, putT, put, nth, zeroOf, cel, alloc, doAlloc, newRow, extract, getO, List.getElem?_cons_succ, List.getElem?_cons_zero, W]
  refine opv_all4 (arr_0 (upd_same _ _ _)) ti25 rfl fun b7 k7 => ?_
  have k7 := pick_wd k7
  have s7 : ∀ j, j < n1 → (upd (upd h1 n1 (some (Blk.row (Cont.l [AVal.int IntKind.u64 0, AVal.int IntKind.u64 0, AVal.int IntKind.u64 0, AVal.int IntKind.u64 0]) 25))) n1 (some b7)) j = h1 j := fun j hj => by rw [upd_ne _ _ (by omega), upd_ne _ _ (by omega)]
  have f7 : Free (upd (upd h1 n1 (some (Blk.row (Cont.l [AVal.int IntKind.u64 0, AVal.int IntKind.u64 0, AVal.int IntKind.u64 0, AVal.int IntKind.u64 0]) 25))) n1 (some b7)) (n1 + 1) := f1.new.upd (by omega)
  generalize (upd (upd h1 n1 (some (Blk.row (Cont.l [AVal.int IntKind.u64 0, AVal.int IntKind.u64 0, AVal.int IntKind.u64 0, AVal.int IntKind.u64 0]) 25))) n1 (some b7)) = H7 at *
  have k4 := ((k4).keep (o1 _ (by omega))).keep (s7 _ (by omega))
  have k5 := ((k5).keep (o1 _ (by omega))).keep (s7 _ (by omega))
  simp only [core1, fgr, hkr, execOp, opd, opds, putT, put, nth, forgetL, doCall, callV_func, List.nil_append, List.append_nil]
  refine opv_callf f7 (f21 c _ _ lc f7) fun v2 h2 n2 hn2 f2 ⟨e2, o2⟩ => ?_
  subst e2
  rw [expA_eq]
  simp only [core1, tyr, execOp, opd, putT, put, nth, zeroOf, cel, alloc, doAlloc, newRow, extract, getO, List.getElem?_cons_succ, List.getElem?_cons_zero, W]
  refine opv_all4 (arr_0 (upd_same _ _ _)) ti25 rfl fun b9 k9 => ?_
  have k9 := pick_wd k9
  have s9 : ∀ j, j < n2 → (upd (upd h2 n2 (some (Blk.row (Cont.l [AVal.int IntKind.u64 0, AVal.int IntKind.u64 0, AVal.int IntKind.u64 0, AVal.int IntKind.u64 0]) 25))) n2 (some b9)) j = h2 j := fun j hj => by rw [upd_ne _ _ (by omega), upd_ne _ _ (by omega)]
  have f9 : Free (upd (upd h2 n2 (some (Blk.row (Cont.l [AVal.int IntKind.u64 0, AVal.int IntKind.u64 0, AVal.int IntKind.u64 0, AVal.int IntKind.u64 0]) 25))) n2 (some b9)) (n2 + 1) := f2.new.upd (by omega)
  generalize (upd (upd h2 n2 (some (Blk.row (Cont.l [AVal.int IntKind.u64 0, AVal.int IntKind.u64 0, AVal.int IntKind.u64 0, AVal.int IntKind.u64 0]) 25))) n2 (some b9)) = H9 at *
  have k4 := ((k4).keep (o2 _ (by omega))).keep (s9 _ (by omega))
  have k5 := ((k5).keep (o2 _ (by omega))).keep (s9 _ (by omega))
  have k7 := ((k7).keep (o2 _ (by omega))).keep (s9 _ (by omega))
  simp only [core1, fgr, execOp, opd, putT, put, nth, forgetL]
  rw [opv_rd (k4.all ti25 rfl rfl), range4]
  simp only [core1, hkr, execOp, opd, opds, putT, put, nth, doCall, callV_func, List.nil_append, List.append_nil]
  refine opv_callf f9 (f15 t _ _ lt f9) fun v3 h3 n3 hn3 f3 ⟨e3, o3⟩ => ?_
  subst e3
  rw [compA_eq]
  have k4 := (k4).keep (o3 _ (by omega))
  have k5 := (k5).keep (o3 _ (by omega))
  have k7 := (k7).keep (o3 _ (by omega))
  have k9 := (k9).keep (o3 _ (by omega))
  simp only [core1, fgr, execOp, opd, putT, put, nth, forgetL, extract, getO, List.getElem?_cons_succ, List.getElem?_cons_zero]
  rw [opv_rd (k4.all ti25 rfl rfl), range4]
  simp only [core1, hkr, execOp, opd, opds, putT, put, nth, doCall, callV_func, List.nil_append, List.append_nil]
  refine opv_callf f3 (f22 t _ _ lt f3) fun v4 h4 n4 hn4 f4 ⟨e4, o4⟩ => ?_
  subst e4
  rw [compA_eq]
  have k4 := (k4).keep (o4 _ (by omega))
  have k5 := (k5).keep (o4 _ (by omega))
  have k7 := (k7).keep (o4 _ (by omega))
  have k9 := (k9).keep (o4 _ (by omega))
  simp only [core1, fgr, execOp, opd, putT, put, nth, forgetL, extract, getO, List.getElem?_cons_succ, List.getElem?_cons_zero]
  rw [opv_rd (k4.all ti25 rfl rfl), range4]
  simp only [core1, hkr, execOp, opd, opds, putT, put, nth, doCall, callV_func, List.nil_append, List.append_nil]
  refine opv_callf f4 (f23 t _ _ lt f4) fun v5 h5 n5 hn5 f5 ⟨e5, o5⟩ => ?_
  subst e5
  rw [workA_eq]
  simp only [core1, tyr, execOp, opd, putT, put, nth, zeroOf, cel, alloc, doAlloc, newRow, extract, getO, List.getElem?_cons_succ, List.getElem?_cons_zero, W]
  refine opv_all4 (arr_0 (upd_same _ _ _)) ti25 rfl fun b15 k15 => ?_
  have k15 := pick_wd k15
  have s15 : ∀ j, j < n5 → (upd (upd h5 n5 (some (Blk.row (Cont.l [AVal.int IntKind.u64 0, AVal.int IntKind.u64 0, AVal.int IntKind.u64 0, AVal.int IntKind.u64 0]) 25))) n5 (some b15)) j = h5 j := fun j hj => by rw [upd_ne _ _ (by omega), upd_ne _ _ (by omega)]
  have f15 : Free (upd (upd h5 n5 (some (Blk.row (Cont.l [AVal.int IntKind.u64 0, AVal.int IntKind.u64 0, AVal.int IntKind.u64 0, AVal.int IntKind.u64 0]) 25))) n5 (some b15)) (n5 + 1) := f5.new.upd (by omega)
  generalize (upd (upd h5 n5 (some (Blk.row (Cont.l [AVal.int IntKind.u64 0, AVal.int IntKind.u64 0, AVal.int IntKind.u64 0, AVal.int IntKind.u64 0]) 25))) n5 (some b15)) = H15 at *
  have k4 := ((k4).keep (o5 _ (by omega))).keep (s15 _ (by omega))
  have k5 := ((k5).keep (o5 _ (by omega))).keep (s15 _ (by omega))
  have k7 := ((k7).keep (o5 _ (by omega))).keep (s15 _ (by omega))
  have k9 := ((k9).keep (o5 _ (by omega))).keep (s15 _ (by omega))
  simp only [core1, fgr, execOp, opd, putT, put, nth, forgetL]
  rw [opv_rd (k4.all ti25 rfl rfl), range4]
  simp only [core1, hkr, execOp, opd, opds, putT, put, nth, doCall, callV_func, List.nil_append, List.append_nil]
  refine opv_callf f15 (f24 t _ _ lt f15) fun v6 h6 n6 hn6 f6 ⟨e6, o6⟩ => ?_
  subst e6
  rw [workA_eq]
  simp only [core1, tyr, execOp, opd, putT, put, nth, zeroOf, cel, alloc, doAlloc, newRow, extract, getO, List.getElem?_cons_succ, List.getElem?_cons_zero, W]
  refine opv_all4 (arr_0 (upd_same _ _ _)) ti25 rfl fun b17 k17 => ?_
  have k17 := pick_wd k17
  have s17 : ∀ j, j < n6 → (upd (upd h6 n6 (some (Blk.row (Cont.l [AVal.int IntKind.u64 0, AVal.int IntKind.u64 0, AVal.int IntKind.u64 0, AVal.int IntKind.u64 0]) 25))) n6 (some b17)) j = h6 j := fun j hj => by rw [upd_ne _ _ (by omega), upd_ne _ _ (by omega)]
  have f17 : Free (upd (upd h6 n6 (some (Blk.row (Cont.l [AVal.int IntKind.u64 0, AVal.int IntKind.u64 0, AVal.int IntKind.u64 0, AVal.int IntKind.u64 0]) 25))) n6 (some b17)) (n6 + 1) := f6.new.upd (by omega)
  generalize (upd (upd h6 n6 (some (Blk.row (Cont.l [AVal.int IntKind.u64 0, AVal.int IntKind.u64 0, AVal.int IntKind.u64 0, AVal.int IntKind.u64 0]) 25))) n6 (some b17)) = H17 at *
  have k4 := ((k4).keep (o6 _ (by omega))).keep (s17 _ (by omega))
  have k5 := ((k5).keep (o6 _ (by omega))).keep (s17 _ (by omega))
  have k7 := ((k7).keep (o6 _ (by omega))).keep (s17 _ (by omega))
  have k9 := ((k9).keep (o6 _ (by omega))).keep (s17 _ (by omega))
  have k15 := ((k15).keep (o6 _ (by omega))).keep (s17 _ (by omega))
  have q1 := eq_agg (expQ_lt c) (expQ_lt c)
  have q2 := eq_agg (workQ_lt t) (workQ_lt t)
  have q3 : ∀ b : Bool, (b == b) = true := fun b => by cases b <;> rfl
  have rh : ∀ (h : Hp) (n : Nat), Arr .u8 h 1 32 (fun j => (g j : Nat)) → Rd (load env 47 (.ptr 1 0)) h n [1] (.agg (cellsF .u8 32 (fun j => (g j : Nat)))) := fun h n a => a.all ti47 rfl rfl
  simp only [core1, fgr, execOp, opd, putT, put, nth, forgetL]
  refine run_draw.2 ⟨rfl, ?_⟩
  simp only [fe_cons, execOp, opd, nth]
  rw [fev_rd (k7.all ti25 rfl rfl), range4]
  simp only [fe_cons, execOp, opd, putT, put, nth, Nat.zero_add]
  rw [fev_rd (k9.all ti25 rfl rfl), range4]
  simp only [fe_cons, fe_guard, fego_some, feg_bool, feg_tt, fev_ask, fev_pure, core1, execOp, opd, ofValue, putT, put, nth, bor, binInt, binOther, shiftB, intOp, doPick, branch, List.getElem?_cons_succ, List.getElem?_cons_zero, Nat.reduceAdd, decide_true, beq_self_eq_true, q1, decide_true]
  rw [fev_rd (k15.all ti25 rfl rfl), range4]
  simp only [fe_guard, fego_some, feg_bool, feg_tt, execOp, opd, putT, put, nth, List.getElem?_cons_succ, List.getElem?_cons_zero, Nat.reduceAdd]
  rw [fev_rd (k17.all ti25 rfl rfl), range4]
  simp only [fe_cons, fe_guard, fego_some, feg_bool, feg_tt, fev_ask, fev_pure, core1, execOp, opd, ofValue, putT, put, nth, bor, binInt, binOther, shiftB, intOp, doPick, branch, List.getElem?_cons_succ, List.getElem?_cons_zero, Nat.reduceAdd, decide_true, beq_self_eq_true, q2, decide_true]
  rw [fev_rd (rh _ _ k5)]
  simp only [fe_guard, fego_some, feg_bool, feg_tt, execOp, opd, putT, put, nth, List.getElem?_cons_succ, List.getElem?_cons_zero, Nat.reduceAdd]
  rw [fev_rd (k4.all ti25 rfl rfl), range4]
  simp only [fe_guard, fego_some, feg_bool, feg_tt, hkr, execOp, opd, opds, putT, put, nth, doCall, callV_func, List.getElem?_cons_succ, List.getElem?_cons_zero, List.nil_append, List.append_nil, Nat.reduceAdd]
  refine fev_free f17 (f25 g hg t _ _ lt Free.none) (f25 g hg t _ _ lt f17) fun v8 h8 n8 hn8 f8 ⟨e8, o8⟩ => ?_
  subst e8
  have k4 := (k4).keep (o8 _ (by omega))
  have k5 := (k5).keep (o8 _ (by omega))
  simp only [fe_guard, fego_some, feg_bool, feg_tt, execOp, opd, putT, put, nth, List.getElem?_cons_succ, List.getElem?_cons_zero, Nat.reduceAdd]
  rw [fev_rd (rh _ _ k5)]
  simp only [fe_guard, fego_some, feg_bool, feg_tt, execOp, opd, putT, put, nth, List.getElem?_cons_succ, List.getElem?_cons_zero, Nat.reduceAdd]
  rw [fev_rd (k4.all ti25 rfl rfl), range4]
  simp only [fe_guard, fego_some, feg_bool, feg_tt, hkr, execOp, opd, opds, putT, put, nth, doCall, callV_func, List.getElem?_cons_succ, List.getElem?_cons_zero, List.nil_append, List.append_nil, Nat.reduceAdd]
  refine fev_free f8 (f26 g hg t _ _ lt Free.none) (f26 g hg t _ _ lt f8) fun v9 h9 n9 hn9 f9 ⟨e9, o9⟩ => ?_
  subst e9
  simp only [fe_nil, fe_cons, fe_guard, fego_some, feg_bool, feg_tt, fev_ask, fev_pure, core1, tyr, fgr, execOp, opd, ofValue, putT, put, nth, forgetL, und, bor, binOther, strK, aggK, doPick, branch, equalTop, equal, nilFn, nilPtr, boolOf, List.getElem?_cons_succ, List.getElem?_cons_zero, Nat.reduceAdd, and_true, and_self, beq_self_eq_true]
  exact (by (try simp (disch := omega) only [fine, List.all_cons, List.all_nil, clash_pl, clash_pr, clash_rr, Bool.not_false, Bool.true_or, Bool.and_true, clash_nn, clash_xn, clash_nx]); repeat' (first | rfl | exact (Bool.or_eq_true _ _).mpr (.inr rfl) | refine (Bool.and_eq_true _ _).mpr ⟨?_, ?_⟩))
end Go.Am.Ytmlagocbphoedaa
