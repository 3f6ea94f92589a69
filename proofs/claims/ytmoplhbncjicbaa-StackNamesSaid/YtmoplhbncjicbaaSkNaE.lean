/- The functions that the statement reaches, gone through. -/
import Derived.Test.YtmoplhbncjicbaaSkNaD
set_option linter.unusedSimpArgs false
set_option linter.unusedVariables false
set_option linter.defProp false
set_option maxRecDepth 10000
namespace Go.Am.Ytmoplhbncjicbaa
open Go Go.Am Go.Proofs
set_option maxHeartbeats 40000000 in
theorem law15 : Wp (callI env (evalW env) 15 []) (fun _ => none) 0 fun v _ _ => v = .bool true := by
  refine wp_callI ff15 fi15 ?_
  obtain ⟨h0, eh0⟩ : ∃ h0 : Hp, h0 = fun _ => none := ⟨_, rfl⟩
  obtain ⟨n0, en0⟩ : ∃ n0 : Nat, n0 = 0 := ⟨_, rfl⟩
  have f0 : Free h0 n0 := by rw [eh0]; exact Free.none
  rw [← eh0, ← en0]
  simp (disch := omega) only [fu15, Try.f15, Option.getD_some, List.replicate, core1, tyr, fgr, hkr, execOp, opd, opds, ofValue, ops2, putT, put, nth, forgetL, doCall, callV_func, und, cel, newRow, getO, ended, resultOf, oneOrTup, List.append_eq, List.cons_append, List.nil_append, List.append_nil, List.length_cons, List.length_nil, Nat.reduceSub, Nat.beq, Int.reduceNeg, Bool.not_false, Bool.and_true, Bool.true_and, Nat.zero_add, Nat.zero_mul, wp_pure, buildSlice, reps, fill, List.take_zero, List.drop_succ_cons, List.drop_zero, Nat.ble, Nat.one_mul, List.length_cons, List.length_nil, Nat.zero_mul]
  refine opv_callf f0.new (f50 [97, 98, 99] [97, 98, 99, 97, 98, 99] [111] _ _ _ (by decide) (by decide +kernel) (by decide) (one_bytes [111] (upd_same _ _ _) rfl) (fun j hj => by injection hj with hj; omega) f0.new) fun v0 h0x n0x hn0 fr0 ⟨e0, o0⟩ => ?_
  subst e0
  rw [dv0]
  simp (disch := omega) only [core1, tyr, hkr, execOp, opd, opds, ofValue, ops2, putT, put, nth, doCall, callV_func, und, cel, newRow, getO, List.getElem?_cons_succ, List.getElem?_cons_zero, List.cons_append, List.nil_append, List.append_nil, List.length_cons, List.length_nil, Nat.beq, Int.reduceNeg, Bool.not_false, Bool.and_true, Bool.true_and, Nat.zero_add, Nat.zero_mul, buildSlice, reps, fill, List.take_zero, List.drop_succ_cons, List.drop_zero, Nat.ble, Nat.one_mul, List.length_cons, List.length_nil, Nat.zero_mul]
  refine opv_callf fr0.new (f50 [97, 98, 99] [97, 98, 99, 3] [116] _ _ _ (by decide) (by decide +kernel) (by decide) (one_bytes [116] (upd_same _ _ _) rfl) (fun j hj => by injection hj with hj; omega) fr0.new) fun v1 h1x n1x hn1 fr1 ⟨e1, o1⟩ => ?_
  subst e1
  rw [dv1]
  simp (disch := omega) only [core1, tyr, hkr, execOp, opd, opds, ofValue, ops2, putT, put, nth, doCall, callV_func, und, doPick, branch, cel, newRow, getO, List.getElem?_cons_succ, List.getElem?_cons_zero, List.cons_append, List.nil_append, List.append_nil, List.length_cons, List.length_nil, Nat.beq, Int.reduceNeg, Bool.not_false, Bool.and_true, Bool.true_and, Nat.zero_add, Nat.zero_mul, buildSlice, reps, fill, List.take_zero, List.drop_succ_cons, List.drop_zero, Nat.ble, Nat.one_mul, List.length_cons, List.length_nil, Nat.zero_mul]
  refine opv_callf fr1.new (f50 [97, 98, 99, 100] [97, 98, 99, 100, 97, 98] [112] _ _ _ (by decide) (by decide +kernel) (by decide) (one_bytes [112] (upd_same _ _ _) rfl) (fun j hj => by injection hj with hj; omega) fr1.new) fun v2 h2x n2x hn2 fr2 ⟨e2, o2⟩ => ?_
  subst e2
  rw [dv2]
  simp (disch := omega) only [core1, tyr, hkr, execOp, opd, opds, ofValue, ops2, putT, put, nth, doCall, callV_func, und, doPick, branch, cel, newRow, getO, List.getElem?_cons_succ, List.getElem?_cons_zero, List.cons_append, List.nil_append, List.append_nil, List.length_cons, List.length_nil, Nat.beq, Int.reduceNeg, Bool.not_false, Bool.and_true, Bool.true_and, Nat.zero_add, Nat.zero_mul, buildSlice, reps, fill, List.take_zero, List.drop_succ_cons, List.drop_zero, Nat.ble, Nat.one_mul, List.length_cons, List.length_nil, Nat.zero_mul]
  refine opv_callf fr2.new (f50 [97, 98, 99, 100, 101, 102] [99, 100, 101, 102, 97, 98] [113] _ _ _ (by decide) (by decide +kernel) (by decide) (one_bytes [113] (upd_same _ _ _) rfl) (fun j hj => by injection hj with hj; omega) fr2.new) fun v3 h3x n3x hn3 fr3 ⟨e3, o3⟩ => ?_
  subst e3
  rw [dv3]
  simp (disch := omega) only [core1, tyr, hkr, execOp, opd, opds, ofValue, ops2, putT, put, nth, doCall, callV_func, und, doPick, branch, cel, newRow, getO, List.getElem?_cons_succ, List.getElem?_cons_zero, List.cons_append, List.nil_append, List.append_nil, List.length_cons, List.length_nil, Nat.beq, Int.reduceNeg, Bool.not_false, Bool.and_true, Bool.true_and, Nat.zero_add, Nat.zero_mul, buildSlice, reps, fill, List.take_zero, List.drop_succ_cons, List.drop_zero, Nat.ble, Nat.one_mul, List.length_cons, List.length_nil, Nat.zero_mul]
  refine opv_callf fr3.new (f50 [97, 98, 99, 100] [99, 100, 97, 98] [114] _ _ _ (by decide) (by decide +kernel) (by decide) (one_bytes [114] (upd_same _ _ _) rfl) (fun j hj => by injection hj with hj; omega) fr3.new) fun v4 h4x n4x hn4 fr4 ⟨e4, o4⟩ => ?_
  subst e4
  rw [dv4]
  simp (disch := omega) only [core1, tyr, hkr, execOp, opd, opds, ofValue, ops2, putT, put, nth, doCall, callV_func, und, doPick, branch, cel, newRow, getO, List.getElem?_cons_succ, List.getElem?_cons_zero, List.cons_append, List.nil_append, List.append_nil, List.length_cons, List.length_nil, Nat.beq, Int.reduceNeg, Bool.not_false, Bool.and_true, Bool.true_and, Nat.zero_add, Nat.zero_mul, buildSlice, reps, fill, List.take_zero, List.drop_succ_cons, List.drop_zero, Nat.ble, Nat.one_mul, List.length_cons, List.length_nil, Nat.zero_mul]
  refine opv_callf fr4.new (f50 [97, 98, 99] [97] [109] _ _ _ (by decide) (by decide +kernel) (by decide) (one_bytes [109] (upd_same _ _ _) rfl) (fun j hj => by injection hj with hj; omega) fr4.new) fun v5 h5x n5x hn5 fr5 ⟨e5, o5⟩ => ?_
  subst e5
  rw [dv5]
  simp (disch := omega) only [core1, tyr, hkr, execOp, opd, opds, ofValue, ops2, putT, put, nth, doCall, callV_func, und, doPick, branch, cel, newRow, getO, List.getElem?_cons_succ, List.getElem?_cons_zero, List.cons_append, List.nil_append, List.append_nil, List.length_cons, List.length_nil, Nat.beq, Int.reduceNeg, Bool.not_false, Bool.and_true, Bool.true_and, Nat.zero_add, Nat.zero_mul, buildSlice, reps, fill, List.take_zero, List.drop_succ_cons, List.drop_zero, Nat.ble, Nat.one_mul, List.length_cons, List.length_nil, Nat.zero_mul]
  refine opv_callf fr5.new (f50 [97, 98, 99] [97, 98] [117] _ _ _ (by decide) (by decide +kernel) (by decide) (one_bytes [117] (upd_same _ _ _) rfl) (fun j hj => by injection hj with hj; omega) fr5.new) fun v6 h6x n6x hn6 fr6 ⟨e6, o6⟩ => ?_
  subst e6
  rw [dv6]
  simp (disch := omega) only [core1, tyr, hkr, execOp, opd, opds, ofValue, ops2, putT, put, nth, doCall, callV_func, und, doPick, branch, cel, newRow, getO, List.getElem?_cons_succ, List.getElem?_cons_zero, List.cons_append, List.nil_append, List.append_nil, List.length_cons, List.length_nil, Nat.beq, Int.reduceNeg, Bool.not_false, Bool.and_true, Bool.true_and, Nat.zero_add, Nat.zero_mul, buildSlice, reps, fill, List.take_zero, List.drop_succ_cons, List.drop_zero, Nat.ble, Nat.one_mul, List.length_cons, List.length_nil, Nat.zero_mul]
  refine opv_callf fr6.new (f50 [97, 98] [97, 98, 98] [118] _ _ _ (by decide) (by decide +kernel) (by decide) (one_bytes [118] (upd_same _ _ _) rfl) (fun j hj => by injection hj with hj; omega) fr6.new) fun v7 h7x n7x hn7 fr7 ⟨e7, o7⟩ => ?_
  subst e7
  rw [dv7]
  simp (disch := omega) only [core1, tyr, hkr, execOp, opd, opds, ofValue, ops2, putT, put, nth, doCall, callV_func, und, doPick, branch, cel, newRow, getO, List.getElem?_cons_succ, List.getElem?_cons_zero, List.cons_append, List.nil_append, List.append_nil, List.length_cons, List.length_nil, Nat.beq, Int.reduceNeg, Bool.not_false, Bool.and_true, Bool.true_and, Nat.zero_add, Nat.zero_mul, buildSlice, reps, fill, List.take_zero, List.drop_succ_cons, List.drop_zero, Nat.ble, Nat.one_mul, List.length_cons, List.length_nil, Nat.zero_mul]
  refine opv_callf fr7.new (f50 [97, 98] [97, 98, 97, 98] [110] _ _ _ (by decide) (by decide +kernel) (by decide) (one_bytes [110] (upd_same _ _ _) rfl) (fun j hj => by injection hj with hj; omega) fr7.new) fun v8 h8x n8x hn8 fr8 ⟨e8, o8⟩ => ?_
  subst e8
  rw [dv8]
  simp (disch := omega) only [core1, tyr, hkr, execOp, opd, opds, ofValue, ops2, putT, put, nth, doCall, callV_func, und, doPick, branch, cel, newRow, getO, List.getElem?_cons_succ, List.getElem?_cons_zero, List.cons_append, List.nil_append, List.append_nil, List.length_cons, List.length_nil, Nat.beq, Int.reduceNeg, Bool.not_false, Bool.and_true, Bool.true_and, Nat.zero_add, Nat.zero_mul, buildSlice, reps, fill, List.take_zero, List.drop_succ_cons, List.drop_zero, Nat.ble, Nat.one_mul, List.length_cons, List.length_nil, Nat.zero_mul]
  refine opv_callf fr8.new (f50 [97, 98] [97, 98, 97] [120] _ _ _ (by decide) (by decide +kernel) (by decide) (one_bytes [120] (upd_same _ _ _) rfl) (fun j hj => by injection hj with hj; omega) fr8.new) fun v9 h9x n9x hn9 fr9 ⟨e9, o9⟩ => ?_
  subst e9
  rw [dv9]
  simp (disch := omega) only [core1, tyr, hkr, execOp, opd, opds, ofValue, ops2, putT, put, nth, doCall, callV_func, und, doPick, branch, cel, newRow, getO, List.getElem?_cons_succ, List.getElem?_cons_zero, List.cons_append, List.nil_append, List.append_nil, List.length_cons, List.length_nil, Nat.beq, Int.reduceNeg, Bool.not_false, Bool.and_true, Bool.true_and, Nat.zero_add, Nat.zero_mul, buildSlice, reps, fill, List.take_zero, List.drop_succ_cons, List.drop_zero, Nat.ble, Nat.one_mul, List.length_cons, List.length_nil, Nat.zero_mul]
  refine opv_callf fr9.new (f50 [97, 98] [98, 97] [124] _ _ _ (by decide) (by decide +kernel) (by decide) (one_bytes [124] (upd_same _ _ _) rfl) (fun j hj => by injection hj with hj; omega) fr9.new) fun v10 h10x n10x hn10 fr10 ⟨e10, o10⟩ => ?_
  subst e10
  rw [dv10]
  simp (disch := omega) only [core1, tyr, hkr, execOp, opd, opds, ofValue, ops2, putT, put, nth, doCall, callV_func, und, doPick, branch, cel, newRow, getO, List.getElem?_cons_succ, List.getElem?_cons_zero, List.cons_append, List.nil_append, List.append_nil, List.length_cons, List.length_nil, Nat.beq, Int.reduceNeg, Bool.not_false, Bool.and_true, Bool.true_and, Nat.zero_add, Nat.zero_mul, buildSlice, reps, fill, List.take_zero, List.drop_succ_cons, List.drop_zero, Nat.ble, Nat.one_mul, List.length_cons, List.length_nil, Nat.zero_mul]
  refine opv_callf fr10.new (f50 [97] [97, 97] [115] _ _ _ (by decide) (by decide +kernel) (by decide) (one_bytes [115] (upd_same _ _ _) rfl) (fun j hj => by injection hj with hj; omega) fr10.new) fun v11 h11x n11x hn11 fr11 ⟨e11, o11⟩ => ?_
  subst e11
  rw [dv11]
  simp (disch := omega) only [core1, tyr, hkr, execOp, opd, opds, ofValue, ops2, putT, put, nth, doCall, callV_func, und, doPick, branch, cel, newRow, getO, List.getElem?_cons_succ, List.getElem?_cons_zero, List.cons_append, List.nil_append, List.append_nil, List.length_cons, List.length_nil, Nat.beq, Int.reduceNeg, Bool.not_false, Bool.and_true, Bool.true_and, Nat.zero_add, Nat.zero_mul, buildSlice, reps, fill, List.take_zero, List.drop_succ_cons, List.drop_zero, Nat.ble, Nat.one_mul, List.length_cons, List.length_nil, Nat.zero_mul]
  refine opv_callf fr11.new (f50 [128] [128] [115] _ _ _ (by decide) (by decide +kernel) (by decide) (one_bytes [115] (upd_same _ _ _) rfl) (fun j hj => by injection hj with hj; omega) fr11.new) fun v12 h12x n12x hn12 fr12 ⟨e12, o12⟩ => ?_
  subst e12
  rw [dv12]
  simp (disch := omega) only [core1, tyr, hkr, execOp, opd, opds, ofValue, ops2, putT, put, nth, doCall, callV_func, und, doPick, branch, cel, newRow, getO, List.getElem?_cons_succ, List.getElem?_cons_zero, List.cons_append, List.nil_append, List.append_nil, List.length_cons, List.length_nil, Nat.beq, Int.reduceNeg, Bool.not_false, Bool.and_true, Bool.true_and, Nat.zero_add, Nat.zero_mul, buildSlice, reps, fill, List.take_zero, List.drop_succ_cons, List.drop_zero, Nat.ble, Nat.one_mul, List.length_cons, List.length_nil, Nat.zero_mul]
  refine opv_callf fr12.new (f50 [97] [97, 1] [130] _ _ _ (by decide) (by decide +kernel) (by decide) (one_bytes [130] (upd_same _ _ _) rfl) (fun j hj => by injection hj with hj; omega) fr12.new) fun v13 h13x n13x hn13 fr13 ⟨e13, o13⟩ => ?_
  subst e13
  rw [dv13]
  simp (disch := omega) only [core1, tyr, hkr, execOp, opd, opds, ofValue, ops2, putT, put, nth, doCall, callV_func, und, doPick, branch, cel, newRow, getO, List.getElem?_cons_succ, List.getElem?_cons_zero, List.cons_append, List.nil_append, List.append_nil, List.length_cons, List.length_nil, Nat.beq, Int.reduceNeg, Bool.not_false, Bool.and_true, Bool.true_and, Nat.zero_add, Nat.zero_mul, buildSlice, reps, fill, List.take_zero, List.drop_succ_cons, List.drop_zero, Nat.ble, Nat.one_mul, List.length_cons, List.length_nil, Nat.zero_mul]
  refine opv_callf fr13.new (f50 [97, 98, 99] [97, 98] [107] _ _ _ (by decide) (by decide +kernel) (by decide) (one_bytes [107] (upd_same _ _ _) rfl) (fun j hj => by injection hj with hj; omega) fr13.new) fun v14 h14x n14x hn14 fr14 ⟨e14, o14⟩ => ?_
  subst e14
  rw [dv14]
  simp (disch := omega) only [core1, tyr, hkr, execOp, opd, opds, ofValue, ops2, putT, put, nth, doCall, callV_func, und, doPick, branch, cel, newRow, getO, List.getElem?_cons_succ, List.getElem?_cons_zero, List.cons_append, List.nil_append, List.append_nil, List.length_cons, List.length_nil, Nat.reduceAdd, Nat.beq, Int.reduceNeg, Bool.not_false, Bool.and_true, Bool.true_and, Nat.zero_add, Nat.zero_mul, buildSlice, reps, fill, List.take_succ_cons, List.take_zero, List.drop_succ_cons, List.drop_zero, Nat.ble, Nat.mul_one, Nat.one_mul, List.length_cons, List.length_nil, Nat.zero_mul]
  refine opv_callf fr14.new (f50 [97, 98, 99] [97, 99, 98] [107, 107, 108, 124, 108] _ _ _ (by decide) (by decide +kernel) (by decide) (one_bytes [107, 107, 108, 124, 108] (upd_same _ _ _) rfl) (fun j hj => by injection hj with hj; omega) fr14.new) fun v15 h15x n15x hn15 fr15 ⟨e15, o15⟩ => ?_
  subst e15
  rw [dv15]
  simp (disch := omega) only [core1, tyr, hkr, execOp, opd, opds, ofValue, ops2, putT, put, nth, doCall, callV_func, und, bor, binOther, strK, aggK, doPick, branch, cel, newRow, getO, equalTop, equal, nilFn, nilPtr, boolOf, List.getElem?_cons_succ, List.getElem?_cons_zero, List.cons_append, List.nil_append, List.append_nil, List.length_cons, List.length_nil, Nat.reduceAdd, Nat.beq, Int.reduceNeg, Bool.not_false, Bool.and_true, Bool.true_and, Nat.zero_add, Nat.zero_mul, beq_self_eq_true, buildSlice, reps, fill, List.take_succ_cons, List.take_zero, List.drop_succ_cons, List.drop_zero, Nat.ble, Nat.one_mul, List.length_cons, List.length_nil, Nat.zero_mul]
  refine opv_callf fr15.new (f50 [97, 98, 99] [97, 98, 99] [107, 108] _ _ _ (by decide) (by decide +kernel) (by decide) (one_bytes [107, 108] (upd_same _ _ _) rfl) (fun j hj => by injection hj with hj; omega) fr15.new) fun v16 h16x n16x hn16 fr16 ⟨e16, o16⟩ => ?_
  subst e16
  rw [dv16]
  simp (disch := omega) only [core1, tyr, fgr, hkr, execOp, opd, opds, ofValue, ops2, putT, put, nth, forgetL, doCall, callV_func, und, doPick, branch, cel, newRow, getO, List.cons_append, List.nil_append, List.append_nil, List.length_cons, List.length_nil, Nat.beq, Int.reduceNeg, Bool.not_false, Bool.and_true, Bool.true_and, Nat.zero_add, Nat.zero_mul, buildSlice, reps, fill, List.take_zero, List.drop_succ_cons, List.drop_zero, Nat.ble, Nat.one_mul, List.length_cons, List.length_nil, Nat.zero_mul]
  refine opv_callf fr16.new (f50 [1, 2, 3, 2] [1, 2, 3, 1] [121] _ _ _ (by decide) (by decide +kernel) (by decide) (one_bytes [121] (upd_same _ _ _) rfl) (fun j hj => by injection hj with hj; omega) fr16.new) fun v17 h17x n17x hn17 fr17 ⟨e17, o17⟩ => ?_
  subst e17
  rw [dv17]
  simp (disch := omega) only [core1, tyr, hkr, execOp, opd, opds, ofValue, ops2, putT, put, nth, doCall, callV_func, und, cel, newRow, getO, List.getElem?_cons_succ, List.getElem?_cons_zero, List.cons_append, List.nil_append, List.append_nil, List.length_cons, List.length_nil, Nat.beq, Int.reduceNeg, Bool.not_false, Bool.and_true, Bool.true_and, Nat.zero_add, Nat.zero_mul, buildSlice, reps, fill, List.take_zero, List.drop_succ_cons, List.drop_zero, Nat.ble, Nat.one_mul, List.length_cons, List.length_nil, Nat.zero_mul]
  refine opv_callf fr17.new (f50 [1, 2, 3, 2] [2, 3, 1] [122] _ _ _ (by decide) (by decide +kernel) (by decide) (one_bytes [122] (upd_same _ _ _) rfl) (fun j hj => by injection hj with hj; omega) fr17.new) fun v18 h18x n18x hn18 fr18 ⟨e18, o18⟩ => ?_
  subst e18
  rw [dv18]
  simp only [core1, fgr, hkr, execOp, opd, opds, ofValue, putT, put, nth, forgetL, doCall, callV_func, doPick, branch, List.nil_append, List.append_nil, Int.reduceNeg]
  refine opv_callf fr18 (f51 [1, 2, 3] _ _ (by decide) (by decide +kernel) fr18) fun vs hs ns hns fs ⟨p, es, ss, os_⟩ => ?_
  subst es
  obtain ⟨D, M, s, hd, hm⟩ := ss
  rw [let1] at s
  simp only [core1, tyr, fgr, hkr, execOp, opd, opds, ofValue, putT, put, nth, forgetL, doCall, callV_func, und, bor, binOther, strK, aggK, equalTop, equal, nilFn, nilPtr, boolOf, List.nil_append, List.append_nil, Int.reduceNeg, Bool.and_true, Bool.or_true]
  refine opv_callf fs (f38 p 112 S0 [] _ _ _ _ s (by decide) (by decide) (by decide +kernel) fs) fun v19 h19x n19x hn19 fr19 ⟨e19, D19, M19, s, c19⟩ => ?_
  subst e19
  rw [al19x, ao19] at s
  rw [ae19]
  simp (disch := omega) only [core1, tyr, fgr, hkr, execOp, opd, opds, ofValue, ops2, putT, put, nth, forgetL, doCall, callV_func, und, cel, newRow, getO, List.cons_append, List.nil_append, List.append_nil, List.length_cons, List.length_nil, Nat.beq, Int.reduceNeg, Bool.not_false, Bool.and_true, Bool.true_and, Nat.zero_add, Nat.zero_mul, buildSlice, reps, fill, List.take_zero, List.drop_succ_cons, List.drop_zero, Nat.ble, Nat.one_mul, List.length_cons, List.length_nil, Nat.zero_mul]
  have s := s.old (n' := n19x + 1) (by omega) (fun j hj => upd_ne (i := n19x) (j := j) h19x (some (Blk.row (Cont.l [.int .u8 3]) 5)) (by omega))
  refine opv_callf fr19.new (f45 p _ [3] S0 [] _ _ _ _ s (by decide) (one_bytes [3] (upd_same _ _ _) rfl) fr19.new) fun v20 h20x n20x hn20 fr20 ⟨e20, D20, M20, s, c20⟩ => ?_
  subst e20
  rw [pl20] at s
  rw [pe20]
  simp only [core1, fgr, hkr, execOp, opd, opds, ofValue, putT, put, nth, forgetL, doCall, callV_func, List.nil_append, List.append_nil, Int.reduceNeg]
  refine opv_callf fr20 (f38 p 121 S1 [] _ _ _ _ s (by decide) (by decide) (by decide +kernel) fr20) fun v21 h21x n21x hn21 fr21 ⟨e21, D21, M21, s, c21⟩ => ?_
  subst e21
  rw [al21x, ao21] at s
  rw [ae21]
  simp only [core1, fgr, hkr, execOp, opd, opds, putT, put, nth, forgetL, doCall, callV_func, List.nil_append, List.append_nil, Int.reduceNeg]
  refine opv_callf fr21 (f52 p S1 [] _ _ _ _ s (by decide) (by decide +kernel) fr21) fun v22 h22x n22x hn22 fr22 ⟨e22, o22⟩ => ?_
  subst e22
  have s := s.old hn22 o22
  simp (disch := omega) only [core1, tyr, fgr, hkr, execOp, opd, opds, ofValue, ops2, putT, put, nth, forgetL, doCall, callV_func, und, bor, strOp, strK, cel, newRow, getO, List.cons_append, List.nil_append, List.append_nil, List.length_cons, List.length_nil, Nat.beq, str_beq, Int.reduceNeg, decide_true, Bool.not_false, Bool.and_true, Bool.true_and, Nat.zero_add, Nat.zero_mul, buildSlice, reps, fill, List.take_zero, List.drop_succ_cons, List.drop_zero, Nat.ble, Nat.one_mul, List.length_cons, List.length_nil, Nat.zero_mul, fl1]
  have s := s.old (n' := n22x + 1) (by omega) (fun j hj => upd_ne (i := n22x) (j := j) h22x (some (Blk.row (Cont.l [.int .u8 129]) 5)) (by omega))
  refine opv_callf fr22.new (f45 p _ [129] S1 [] _ _ _ _ s (by decide) (one_bytes [129] (upd_same _ _ _) rfl) fr22.new) fun v23 h23x n23x hn23 fr23 ⟨e23, D23, M23, s, c23⟩ => ?_
  subst e23
  rw [pl23] at s
  rw [pe23]
  simp only [core1, fgr, hkr, execOp, opd, opds, ofValue, putT, put, nth, forgetL, doCall, callV_func, List.nil_append, List.append_nil, Int.reduceNeg]
  refine opv_callf fr23 (f38 p 122 S2 [] _ _ _ _ s (by decide) (by decide) (by decide +kernel) fr23) fun v24 h24x n24x hn24 fr24 ⟨e24, D24, M24, s, c24⟩ => ?_
  subst e24
  rw [al24x, ao24] at s
  rw [ae24]
  simp (disch := omega) only [core1, tyr, fgr, hkr, execOp, opd, opds, ofValue, ops2, putT, put, nth, forgetL, doCall, callV_func, und, cel, newRow, getO, List.cons_append, List.nil_append, List.append_nil, List.length_cons, List.length_nil, Nat.beq, Int.reduceNeg, Bool.not_false, Bool.and_true, Bool.true_and, Nat.zero_add, Nat.zero_mul, buildSlice, reps, fill, List.take_zero, List.drop_succ_cons, List.drop_zero, Nat.ble, Nat.one_mul, List.length_cons, List.length_nil, Nat.zero_mul]
  have s := s.old (n' := n24x + 1) (by omega) (fun j hj => upd_ne (i := n24x) (j := j) h24x (some (Blk.row (Cont.l [.int .u8 0]) 5)) (by omega))
  refine opv_callf fr24.new (f45 p _ [0] S2 [] _ _ _ _ s (by decide) (one_bytes [0] (upd_same _ _ _) rfl) fr24.new) fun v25 h25x n25x hn25 fr25 ⟨e25, D25, M25, s, c25⟩ => ?_
  subst e25
  rw [pl25] at s
  rw [pe25]
  simp only [core1, fgr, hkr, execOp, opd, opds, ofValue, putT, put, nth, forgetL, doCall, callV_func, List.nil_append, List.append_nil, Int.reduceNeg]
  refine opv_callf fr25 (f38 p 121 S3 [] _ _ _ _ s (by decide) (by decide) (by decide +kernel) fr25) fun v26 h26x n26x hn26 fr26 ⟨e26, D26, M26, s, c26⟩ => ?_
  subst e26
  rw [al26x, ao26] at s
  rw [ae26]
  simp only [core1, fgr, hkr, execOp, opd, opds, ofValue, putT, put, nth, forgetL, doCall, callV_func, List.nil_append, List.append_nil, Int.reduceNeg]
  refine opv_callf fr26 (f38 p 108 S3 [] _ _ _ _ s (by decide) (by decide) (by decide +kernel) fr26) fun v27 h27x n27x hn27 fr27 ⟨e27, D27, M27, s, c27⟩ => ?_
  subst e27
  rw [al27x, ao27] at s
  rw [ae27]
  simp only [core1, fgr, hkr, execOp, opd, opds, ofValue, putT, put, nth, forgetL, doCall, callV_func, List.nil_append, List.append_nil, Int.reduceNeg]
  refine opv_callf fr27 (f38 p 97 S3 [] _ _ _ _ s (by decide) (by decide) (by decide +kernel) fr27) fun v28 h28x n28x hn28 fr28 ⟨e28, D28, M28, s, c28⟩ => ?_
  subst e28
  rw [al28x, ao28] at s
  rw [ae28]
  simp only [core1, fgr, execOp, opd, ofValue, putT, put, nth, forgetL, Int.reduceNeg]
  rw [opv_make (z := 521) (m := 521) rfl t22 ti5 (by decide) (by decide)]
  simp only [core1, hkr, execOp, opd, opds, putT, put, nth, doCall, callV_func, cel, List.nil_append, List.append_nil, Int.reduceNeg]
  have s := s.old (n' := n28x + 1) (by omega) (fun j hj => upd_ne (i := n28x) (j := j) h28x (some (Blk.row (Cont.l (reps [.int .u8 0] 521)) 5)) (by omega))
  refine opv_callf fr28.new (f45 p _ (Z 521) S3 [] _ _ _ _ s (by decide) (zs_bytes 521 (upd_same _ _ _)) fr28.new) fun v29 h29x n29x hn29 fr29 ⟨e29, D29, M29, s, c29⟩ => ?_
  subst e29
  rw [pl29] at s
  rw [pe29]
  simp only [core1, fgr, execOp, opd, ofValue, putT, put, nth, forgetL, Int.reduceNeg]
  rw [opv_make (z := 520) (m := 520) rfl t22 ti5 (by decide) (by decide)]
  simp only [core1, hkr, execOp, opd, opds, putT, put, nth, doCall, callV_func, cel, List.nil_append, List.append_nil, Int.reduceNeg]
  have s := s.old (n' := n29x + 1) (by omega) (fun j hj => upd_ne (i := n29x) (j := j) h29x (some (Blk.row (Cont.l (reps [.int .u8 0] 520)) 5)) (by omega))
  refine opv_callf fr29.new (f45 p _ (Z 520) S3 [] _ _ _ _ s (by decide) (zs_bytes 520 (upd_same _ _ _)) fr29.new) fun v30 h30x n30x hn30 fr30 ⟨e30, D30, M30, s, c30⟩ => ?_
  subst e30
  rw [pl30] at s
  rw [pe30]
  simp only [core1, fgr, hkr, execOp, opd, opds, ofValue, putT, put, nth, forgetL, doCall, callV_func, List.nil_append, List.append_nil, Int.reduceNeg]
  refine opv_callf fr30 (f43 p 9 S4 [] _ _ _ _ s (by decide) (by decide +kernel) fr30) fun v31 h31x n31x hn31 fr31 ⟨t31, e31, _, _, o31⟩ => ?_
  subst e31
  have s := s.old hn31 o31
  rw [te31]
  simp only [core1, fgr, hkr, execOp, opd, opds, ofValue, putT, put, nth, forgetL, doCall, callV_func, extract, getO, List.getElem?_cons_succ, List.getElem?_cons_zero, List.nil_append, List.append_nil, Int.reduceNeg]
  refine opv_callf fr31 (f43 p (-1) S4 [] _ _ _ _ s (by decide) (by decide +kernel) fr31) fun v32 h32x n32x hn32 fr32 ⟨t32, e32, _, _, o32⟩ => ?_
  subst e32
  have s := s.old hn32 o32
  rw [te32]
  simp only [core1, fgr, hkr, execOp, opd, opds, putT, put, nth, forgetL, doCall, callV_func, extract, getO, List.getElem?_cons_succ, List.getElem?_cons_zero, List.nil_append, List.append_nil, Int.reduceNeg]
  refine opv_callf fr32 (f53 p S4 [] _ _ _ _ s (by decide) (by decide +kernel) fr32) fun v33 h33x n33x hn33 fr33 ⟨e33, s, c33⟩ => ?_
  subst e33
  rw [nl4] at s
  rw [ne4, nv4]
  simp only [core1, fgr, hkr, execOp, opd, opds, ofValue, putT, put, nth, forgetL, doCall, callV_func, bor, binInt, shiftB, intOp, doPick, branch, extract, getO, List.getElem?_cons_succ, List.getElem?_cons_zero, List.nil_append, List.append_nil, decide_true, beq_self_eq_true]
  refine opv_callf fr33 (f42 p S4 [] _ _ _ _ s fr33) fun v34 h34x n34x hn34 fr34 ⟨e34, o34⟩ => ?_
  subst e34
  rw [ln4]
  simp only [core1, fgr, execOp, opd, ofValue, putT, put, nth, forgetL, bor, binInt, shiftB, intOp, doPick, branch, List.getElem?_cons_succ, List.getElem?_cons_zero, Int.cast_ofNat_Int, decide_true, beq_self_eq_true]
  rw [opv_make (z := 100) (m := 100) rfl u53 ti22 (by decide) (by decide)]
  simp only [core1, hkr, execOp, opd, opds, putT, put, nth, doCall, callV_func, cel, List.nil_append, List.append_nil]
  refine opv_callf fr34.new (f37 _ (reps [.nils] 100) N100 (fun _ => False) _ _ (by decide) (by rw [show N100.length = 100 from by decide]; exact row_rds (upd_same _ _ _) (by decide +kernel)) (fun j hj => by injection hj with hj; omega) (els_nils 100 _) (fun j hj => hj.elim) fr34.new) fun v35 h35x n35x hn35 fr35 ⟨o35, hh⟩ => ?_
  obtain ⟨p, ev, ss⟩ : ∃ p, v35 = .tup [.ptr p 0, .int .i64 0] ∧ StkN h35x n35x _ p N100 [] := hh.elim (fun q => absurd ne100 q.1) (fun q => q.2)
  subst ev
  obtain ⟨D, M, s, hd, hm⟩ := ss
  simp only [core1, fgr, execOp, opd, ofValue, putT, put, nth, forgetL, extract, getO, List.getElem?_cons_succ, List.getElem?_cons_zero]
  rw [opv_make (z := 101) (m := 101) rfl u53 ti22 (by decide) (by decide)]
  simp only [core1, hkr, execOp, opd, opds, putT, put, nth, doCall, callV_func, cel, List.nil_append, List.append_nil]
  have s := s.old (n' := n35x + 1) (by omega) (fun j hj => upd_ne (i := n35x) (j := j) h35x (some (Blk.row (Cont.l (reps [.nils] 101)) 22)) (by omega))
  refine opv_callf fr35.new (f37 _ (reps [.nils] 101) N101 (fun _ => False) _ _ (by decide) (by rw [show N101.length = 101 from by decide]; exact row_rds (upd_same _ _ _) (by decide +kernel)) (fun j hj => by injection hj with hj; omega) (els_nils 101 _) (fun j hj => hj.elim) fr35.new) fun v36 h36x n36x hn36 fr36 ⟨o36, hh⟩ => ?_
  have ev : v36 = .tup [.nilp, .int .i64 121] := hh.elim (fun q => by rw [ne101] at q; exact q.2) (fun q => by rw [ne101] at q; cases q.1)
  subst ev
  have s := s.old hn36 o36
  simp only [core1, fgr, execOp, opd, ofValue, putT, put, nth, forgetL, extract, getO, List.getElem?_cons_succ, List.getElem?_cons_zero]
  rw [opv_make (z := 521) (m := 521) rfl t22 ti5 (by decide) (by decide)]
  simp only [core1, execOp, opd, ops2, putT, put, nth, cel]
  rw [bs22 _ ⟨rfl, rfl, rfl⟩]
  have g37 := upd_same h36x n36x (some (Blk.row (Cont.l (reps [.int .u8 0] 521)) 5))
  have s := s.old (n' := n36x + 1) (by omega) (fun j hj => upd_ne (i := n36x) (j := j) h36x (some (Blk.row (Cont.l (reps [.int .u8 0] 521)) 5)) (by omega))
  refine opv_row ti22 fr36.new fun hq gq oq fq => ?_
  have s := s.old (n' := n36x + 1 + 1) (by omega) (fun j hj => oq j (by omega))
  have bq : Bytes hq (.sl n36x 0 521 (some 521) 1) (Z 521) := (zs_bytes 521 g37).keep (fun j hj => by injection hj with hj; subst hj; exact oq _ (by omega))
  simp only [core1, hkr, execOp, opd, opds, putT, put, nth, doCall, callV_func, List.nil_append, List.append_nil]
  refine opv_callf fq (f37 _ [.sl n36x 0 521 (some 521) 1] [Z 521] (fun j => j = n36x) hq (n36x + 1 + 1) (by decide) (row_rds gq rfl) (fun j hj => by injection hj with hj; omega) (Els.one ⟨bq, fun j hj => by injection hj with hj; exact hj.symm⟩) (fun j hj => by omega) fq) fun v37 h37x n37x hn37 fr37 ⟨o37, hh⟩ => ?_
  have ev : v37 = .tup [.nilp, .int .i64 120] := hh.elim (fun q => by rw [neZ] at q; exact q.2) (fun q => by rw [neZ] at q; cases q.1)
  subst ev
  have s := s.old hn37 o37
  simp only [core1, fgr, hkr, execOp, opd, opds, ofValue, putT, put, nth, forgetL, doCall, callV_func, extract, getO, List.getElem?_cons_succ, List.getElem?_cons_zero, List.nil_append, List.append_nil]
  refine opv_callf fr37 (f45 p _ [] N100 [] _ _ _ _ s (by decide) .nils fr37) fun v38 h38x n38x hn38 fr38 ⟨e38, D38, M38, s, c38⟩ => ?_
  subst e38
  rw [pl38] at s
  rw [pe38]
  simp only [core1, hkr, execOp, opd, opds, ofValue, putT, put, nth, doCall, callV_func, List.nil_append, List.append_nil]
  refine opv_callf fr38 (f38 p 118 N100 [] _ _ _ _ s (by decide) (by decide) (by decide +kernel) fr38) fun v39 h39x n39x hn39 fr39 ⟨e39, D39, M39, s, c39⟩ => ?_
  subst e39
  rw [al39x, ao39] at s
  rw [ae39]
  simp only [core1, hkr, execOp, opd, opds, ofValue, putT, put, nth, doCall, callV_func, List.nil_append, List.append_nil]
  refine opv_callf fr39 (f38 p 107 N100 [] _ _ _ _ s (by decide) (by decide) (by decide +kernel) fr39) fun v40 h40x n40x hn40 fr40 ⟨e40, D40, M40, s, c40⟩ => ?_
  subst e40
  rw [al40x, ao40] at s
  rw [ae40]
  simp only [core1, fgr, hkr, execOp, opd, opds, ofValue, putT, put, nth, forgetL, doCall, callV_func, List.nil_append, List.append_nil]
  refine opv_callf fr40 (f45 p _ [] N99 [[]] _ _ _ _ s (by decide) .nils fr40) fun v41 h41x n41x hn41 fr41 ⟨e41, D41, M41, s, c41⟩ => ?_
  subst e41
  rw [pl41] at s
  rw [pe41]
  simp only [core1, hkr, execOp, opd, opds, ofValue, putT, put, nth, doCall, callV_func, List.nil_append, List.append_nil]
  refine opv_callf fr41 (f38 p 116 N99 [[]] _ _ _ _ s (by decide) (by decide) (by decide +kernel) fr41) fun v42 h42x n42x hn42 fr42 ⟨e42, D42, M42, s, c42⟩ => ?_
  subst e42
  rw [al42x, ao42] at s
  rw [ae42]
  simp only [core1, fgr, hkr, execOp, opd, opds, ofValue, putT, put, nth, forgetL, doCall, callV_func, List.nil_append, List.append_nil]
  refine opv_same (n46 _ _) ?_
  simp only [core1, fgr, hkr, execOp, opd, opds, putT, put, nth, forgetL, doCall, callV_func, extract, getO, List.getElem?_cons_succ, List.getElem?_cons_zero, List.nil_append, List.append_nil]
  refine opv_same (n53 _ _) ?_
  simp only [core1, fgr, hkr, execOp, opd, opds, ofValue, putT, put, nth, forgetL, doCall, callV_func, bor, binInt, shiftB, intOp, doPick, branch, extract, getO, List.getElem?_cons_succ, List.getElem?_cons_zero, List.nil_append, List.append_nil, decide_true, beq_self_eq_true]
  refine opv_callf fr42 (f42 p N99 [[]] _ _ _ _ s fr42) fun v43 h43x n43x hn43 fr43 ⟨e43, o43⟩ => ?_
  subst e43
  have s := s.old hn43 o43
  rw [ln99]
  simp only [core1, hkr, execOp, opd, opds, ofValue, putT, put, nth, doCall, callV_func, bor, binInt, shiftB, intOp, doPick, branch, List.getElem?_cons_succ, List.getElem?_cons_zero, List.nil_append, List.append_nil, Int.cast_ofNat_Int, decide_true, beq_self_eq_true]
  refine opv_callf fr43 (f41 p N99 [[]] _ _ _ _ s (by decide) (by decide) fr43) fun v44 h44x n44x hn44 fr44 ⟨ys, Dx, lx, _, _, _, _, o44⟩ => ?_
  simp only [core1, fgr, hkr, execOp, opd, opds, ofValue, putT, put, nth, forgetL, doCall, callV_func, builtin, one1, bor, binInt, shiftB, intOp, doPick, branch, List.getElem?_cons_succ, List.getElem?_cons_zero, List.append_nil, List.length_cons, List.length_nil, Int.cast_ofNat_Int, decide_true, Nat.zero_add, beq_self_eq_true, lx.rds.bLen u53]
  refine opv_callf fr44 (f35 _ _ fr44) fun v45 h45x n45x hn45 fr45 ⟨e45, o45⟩ => ?_
  subst e45
  simp only [core1, hkr, execOp, opd, opds, ofValue, putT, put, nth, doCall, callV_func, doPick, branch, List.getElem?_cons_succ, List.getElem?_cons_zero, List.nil_append, List.append_nil]
  refine opv_same (n45 _ _) ?_
  simp only [core1, hkr, execOp, opd, opds, ofValue, putT, put, nth, doCall, callV_func, bor, binInt, shiftB, intOp, doPick, branch, List.getElem?_cons_succ, List.getElem?_cons_zero, List.nil_append, List.append_nil, decide_true, beq_self_eq_true]
  refine opv_same (n38 _ _) ?_
  simp only [core1, hkr, execOp, opd, opds, ofValue, putT, put, nth, doCall, callV_func, bor, binInt, shiftB, intOp, doPick, branch, List.getElem?_cons_succ, List.getElem?_cons_zero, List.nil_append, List.append_nil, decide_true, beq_self_eq_true]
  refine opv_same (n42 _ _) ?_
  simp only [core1, hkr, execOp, opd, opds, putT, put, nth, doCall, callV_func, List.getElem?_cons_succ, List.getElem?_cons_zero, List.nil_append, List.append_nil]
  refine opv_same (n40 _ _) ?_
  simp only [core1, hkr, execOp, opd, opds, putT, put, nth, doCall, callV_func, builtin, one1, blr, bor, binInt, shiftB, intOp, wrapI, List.getElem?_cons_succ, List.getElem?_cons_zero, List.nil_append, List.append_nil, Int.reduceAdd, decide_true]
  refine opv_same (n41 _ _) ?_
  simp only [core1, execOp, opd, opds, ofValue, putT, put, nth, doCall, builtin, one1, blr, bor, binInt, shiftB, intOp, wrapI, doPick, branch, List.getElem?_cons_succ, List.getElem?_cons_zero, int_beq, decide_true]
  simp only [core1, hkr, execOp, opd, opds, ofValue, doCall, callV_func, List.nil_append, List.append_nil, decide_true, w00]
  simp only [core1, fgr, hkr, execOp, opd, opds, ofValue, putT, put, nth, forgetL, doCall, callV_func, unOp, doPick, branch, List.getElem?_cons_succ, List.getElem?_cons_zero, List.nil_append, List.append_nil, Bool.not_false, and_self, c44, dz125, dz147]
end Go.Am.Ytmoplhbncjicbaa
