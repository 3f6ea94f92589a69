/- Orders of numbers. -/
import Derived.Test.YtfomdaajpembmaaNumC
set_option linter.unusedSimpArgs false
set_option linter.unusedVariables false
set_option linter.defProp false
set_option maxRecDepth 10000
namespace Go.Am.Ytfomdaajpembmaa
open Go Go.Am Go.Proofs
theorem b2i_two (p q : Bool) : decide (b2i p + b2i q = 2) = (q && p) := by cases p <;> cases q <;> decide
theorem b2i_wrap (p q : Bool) : IntKind.i64.wrap (b2i p + b2i q) = b2i p + b2i q := by cases p <;> cases q <;> decide
set_option maxHeartbeats 2000000 in
theorem law6 (a b c : Int) (w0 : (Lit.int .i64 a).wf = true) (w1 : (Lit.int .i64 b).wf = true) (w2 : (Lit.int .i64 c).wf = true) : Wp (callI env (evalW env) 6 [.int .i64 a, .int .i64 b, .int .i64 c]) (fun _ => none) 0 fun v _ _ => v = .bool true := by
  refine wp_callI ff6 fi6 ?_
  simp only [fu6, Try.f6, Option.getD_some, List.replicate, core1, tyr, fgr, hkr, execOp, opd, opds, opt, ofValue, ofArr, ofList, ops2, putT, put, nth, forgetL, doCall, callV, builtin, one1, two2, some1, foldM2, min2, max2, bLen, bAppend, bCopy, intB, und, sizeOf, zeroOf, lenOf, binOp, binInt, binOther, shiftB, shiftOp, intOp, wrapI, strOp, strK, intK, slK, aggK, unOp, convert, convStr, isU8, doPick, branch, indexAddr, idx, load, readCells, cellsOf, oneOf, aggB, store, AVal.cells, oneCell, doStore, alloc, doAlloc, newRow, nilCheck, extract, getO, isJunk, ended, resultOf, oneOrTup, rowK, loopK, moved, fieldAddr, field, part, index, sameSz, equalTop, equal, nilFn, nilPtr, nilSl, boolOf, List.getElem?_cons_succ, List.getElem?_cons_zero, List.append_eq, List.cons_append, List.nil_append, List.append_nil, List.length_cons, List.length_nil, Nat.reduceAdd, Nat.reduceSub, Nat.beq, Option.bind_some, nc0, nc1, Int.cast_ofNat_Int, int_beq, int_bne, str_beq, ↓reduceIte, Int.reduceEq, Int.reduceLT, Int.reduceLE, Int.reduceNe, Int.reduceAdd, Int.reduceSub, Int.reduceMul, Int.reduceNeg, Int.reduceGT, Int.reduceGE, ge_iff_le, gt_iff_lt, not_true_eq_false, not_false_eq_true, decide_not, decide_true, decide_false, Bool.not_true, Bool.not_false, Bool.and_true, Bool.true_and, Bool.and_false, Bool.false_and, Bool.or_true, Bool.true_or, Bool.or_false, Bool.false_or, and_true, true_and, and_self, Nat.zero_add, Nat.add_zero, Int.toNat_zero, Nat.zero_mul, wp_pure, beq_self_eq_true, bne_self_eq_false, reduceCtorEq]
  refine opv_call alive_wp fun v h n _ hv => ?_
  subst hv
  have hx := tmod_b a
  have hy := tmod_b b
  have hz := tmod_b c
  obtain ⟨x, rx⟩ : ∃ x, a.tmod 2147483648 = x := ⟨_, rfl⟩
  obtain ⟨y, ry⟩ : ∃ y, b.tmod 2147483648 = y := ⟨_, rfl⟩
  obtain ⟨z, rz⟩ : ∃ z, c.tmod 2147483648 = z := ⟨_, rfl⟩
  rw [rx] at hx
  rw [ry] at hy
  rw [rz] at hz
  have m1 := may_of hx
  have m2 := may_of hy
  have m3 := may_of hz
  have t1 : twoR 159 z y = (b2i (decide (z < y)), 0) := by simp [twoR, isTwo, twoV, m3, m2]
  have t2 : twoR 162 z x = (b2i (decide (x ≤ z)), 0) := by simp [twoR, isTwo, twoV, m3, m1]
  have t3 : twoR 159 x y = (b2i (decide (x < y)), 0) := by simp [twoR, isTwo, twoV, m1, m2]
  have t4 : twoR 160 x y = (b2i (decide (y < x)), 0) := by simp [twoR, isTwo, twoV, m1, m2]
  have t5 : twoR 156 x y = (b2i (decide (x = y)), 0) := by simp [twoR, isTwo, twoV, m1, m2]
  have t6 : twoR 158 x y = (b2i (decide (¬ x = y)), 0) := by simp [twoR, isTwo, twoV, m1, m2]
  have t7 : twoR 161 x y = (b2i (decide (x ≤ y)), 0) := by simp [twoR, isTwo, twoV, m1, m2]
  have t8 : twoR 162 x y = (b2i (decide (y ≤ x)), 0) := by simp [twoR, isTwo, twoV, m1, m2]
  have t9 : twoR 163 x y = (if y < x then y else x, 0) := by simp [twoR, isTwo, twoV, m1, m2]
  have t10 : twoR 164 x y = (if x < y then y else x, 0) := by simp [twoR, isTwo, twoV, m1, m2]
  by_cases e1 : x < y
  · have e2 : ¬ y < x := by omega
    have e3 : ¬ x = y := by omega
    have e4 : x ≤ y := by omega
    have e5 : ¬ y ≤ x := by omega
    simp only [e1, e2, e3, e4, e5, ↓reduceIte, decide_true, decide_false, not_false_eq_true, b2i] at t3 t4 t5 t6 t7 t8 t9 t10
    simp (maxSteps := 10000000) (disch := omega) only [core1, tyr, fgr, hkr, execOp, opd, opds, opt, ofValue, ofArr, ofList, ops2, putT, put, nth, forgetL, doCall, callV, builtin, one1, two2, some1, foldM2, min2, max2, bLen, bAppend, bCopy, intB, und, sizeOf, zeroOf, lenOf, binOp, binInt, binOther, shiftB, shiftOp, intOp, wrapI, strOp, strK, intK, slK, aggK, unOp, convert, convStr, isU8, doPick, branch, indexAddr, idx, load, readCells, cellsOf, oneOf, aggB, store, AVal.cells, oneCell, doStore, alloc, doAlloc, newRow, nilCheck, extract, getO, isJunk, ended, resultOf, oneOrTup, rowK, loopK, moved, fieldAddr, field, part, index, sameSz, equalTop, equal, nilFn, nilPtr, nilSl, boolOf, List.getElem?_cons_succ, List.getElem?_cons_zero, List.append_eq, List.cons_append, List.nil_append, List.append_nil, List.length_cons, List.length_nil, Nat.reduceAdd, Nat.reduceSub, Nat.beq, Option.bind_some, nc0, nc1, Int.cast_ofNat_Int, int_beq, int_bne, str_beq, ↓reduceIte, Int.reduceEq, Int.reduceLT, Int.reduceLE, Int.reduceNe, Int.reduceAdd, Int.reduceSub, Int.reduceMul, Int.reduceNeg, Int.reduceGT, Int.reduceGE, ge_iff_le, gt_iff_lt, not_true_eq_false, not_false_eq_true, decide_not, decide_true, decide_false, Bool.not_true, Bool.not_false, Bool.and_true, Bool.true_and, Bool.and_false, Bool.false_and, Bool.or_true, Bool.true_or, Bool.or_false, Bool.false_or, and_true, true_and, and_self, Nat.zero_add, Nat.add_zero, Int.toNat_zero, Nat.zero_mul, wp_pure, beq_self_eq_true, bne_self_eq_false, reduceCtorEq, buildSlice, build, reps, fill, sizesOf, List.take_succ_cons, List.take_zero, List.drop_succ_cons, List.drop_zero, Nat.reduceMul, Nat.ble, Nat.reduceLeDiff, Nat.mul_one, Nat.one_mul, writeCells, setAll, Cont.size, Cont.set, Cont.at, Cont.sub, upd_same, upd_ne, List.all_cons, List.all_nil, Option.some.injEq, exists_eq_left', Int.reduceToNat, ne_eq, and_true, true_and, List.length_cons, List.length_nil, Nat.mul_zero, Nat.zero_mul, run_loop, c21, c23, rx, ry, rz, t1, t2, t3, t4, t5, t6, t7, t8, t9, t10, w64, b2i_two, b2i_wrap, e4]
  · by_cases e2 : y < x
    · have e3 : ¬ x = y := by omega
      have e4 : ¬ x ≤ y := by omega
      have e5 : y ≤ x := by omega
      simp only [e1, e2, e3, e4, e5, ↓reduceIte, decide_true, decide_false, not_false_eq_true, b2i] at t3 t4 t5 t6 t7 t8 t9 t10
      simp (maxSteps := 10000000) (disch := omega) only [core1, tyr, fgr, hkr, execOp, opd, opds, opt, ofValue, ofArr, ofList, ops2, putT, put, nth, forgetL, doCall, callV, builtin, one1, two2, some1, foldM2, min2, max2, bLen, bAppend, bCopy, intB, und, sizeOf, zeroOf, lenOf, binOp, binInt, binOther, shiftB, shiftOp, intOp, wrapI, strOp, strK, intK, slK, aggK, unOp, convert, convStr, isU8, doPick, branch, indexAddr, idx, load, readCells, cellsOf, oneOf, aggB, store, AVal.cells, oneCell, doStore, alloc, doAlloc, newRow, nilCheck, extract, getO, isJunk, ended, resultOf, oneOrTup, rowK, loopK, moved, fieldAddr, field, part, index, sameSz, equalTop, equal, nilFn, nilPtr, nilSl, boolOf, List.getElem?_cons_succ, List.getElem?_cons_zero, List.append_eq, List.cons_append, List.nil_append, List.append_nil, List.length_cons, List.length_nil, Nat.reduceAdd, Nat.reduceSub, Nat.beq, Option.bind_some, nc0, nc1, Int.cast_ofNat_Int, int_beq, int_bne, str_beq, ↓reduceIte, Int.reduceEq, Int.reduceLT, Int.reduceLE, Int.reduceNe, Int.reduceAdd, Int.reduceSub, Int.reduceMul, Int.reduceNeg, Int.reduceGT, Int.reduceGE, ge_iff_le, gt_iff_lt, not_true_eq_false, not_false_eq_true, decide_not, decide_true, decide_false, Bool.not_true, Bool.not_false, Bool.and_true, Bool.true_and, Bool.and_false, Bool.false_and, Bool.or_true, Bool.true_or, Bool.or_false, Bool.false_or, and_true, true_and, and_self, Nat.zero_add, Nat.add_zero, Int.toNat_zero, Nat.zero_mul, wp_pure, beq_self_eq_true, bne_self_eq_false, reduceCtorEq, buildSlice, build, reps, fill, sizesOf, List.take_succ_cons, List.take_zero, List.drop_succ_cons, List.drop_zero, Nat.reduceMul, Nat.ble, Nat.reduceLeDiff, Nat.mul_one, Nat.one_mul, writeCells, setAll, Cont.size, Cont.set, Cont.at, Cont.sub, upd_same, upd_ne, List.all_cons, List.all_nil, Option.some.injEq, exists_eq_left', Int.reduceToNat, ne_eq, and_true, true_and, List.length_cons, List.length_nil, Nat.mul_zero, Nat.zero_mul, run_loop, c21, c23, rx, ry, rz, t1, t2, t3, t4, t5, t6, t7, t8, t9, t10, w64, b2i_two, b2i_wrap, Int.add_comm y x, e5]
    · have e3 : x = y := by omega
      have e4 : x ≤ y := by omega
      have e5 : y ≤ x := by omega
      have e6 : y ≤ y := by omega
      subst e3
      have e3 : (x = x) = True := eq_self x
      simp only [e1, e2, e3, e4, e5, ↓reduceIte, decide_true, decide_false, not_false_eq_true, b2i] at t3 t4 t5 t6 t7 t8 t9 t10
      simp (maxSteps := 10000000) (disch := omega) only [core1, tyr, fgr, hkr, execOp, opd, opds, opt, ofValue, ofArr, ofList, ops2, putT, put, nth, forgetL, doCall, callV, builtin, one1, two2, some1, foldM2, min2, max2, bLen, bAppend, bCopy, intB, und, sizeOf, zeroOf, lenOf, binOp, binInt, binOther, shiftB, shiftOp, intOp, wrapI, strOp, strK, intK, slK, aggK, unOp, convert, convStr, isU8, doPick, branch, indexAddr, idx, load, readCells, cellsOf, oneOf, aggB, store, AVal.cells, oneCell, doStore, alloc, doAlloc, newRow, nilCheck, extract, getO, isJunk, ended, resultOf, oneOrTup, rowK, loopK, moved, fieldAddr, field, part, index, sameSz, equalTop, equal, nilFn, nilPtr, nilSl, boolOf, List.getElem?_cons_succ, List.getElem?_cons_zero, List.append_eq, List.cons_append, List.nil_append, List.append_nil, List.length_cons, List.length_nil, Nat.reduceAdd, Nat.reduceSub, Nat.beq, Option.bind_some, nc0, nc1, Int.cast_ofNat_Int, int_beq, int_bne, str_beq, ↓reduceIte, Int.reduceEq, Int.reduceLT, Int.reduceLE, Int.reduceNe, Int.reduceAdd, Int.reduceSub, Int.reduceMul, Int.reduceNeg, Int.reduceGT, Int.reduceGE, ge_iff_le, gt_iff_lt, not_true_eq_false, not_false_eq_true, decide_not, decide_true, decide_false, Bool.not_true, Bool.not_false, Bool.and_true, Bool.true_and, Bool.and_false, Bool.false_and, Bool.or_true, Bool.true_or, Bool.or_false, Bool.false_or, and_true, true_and, and_self, Nat.zero_add, Nat.add_zero, Int.toNat_zero, Nat.zero_mul, wp_pure, beq_self_eq_true, bne_self_eq_false, reduceCtorEq, buildSlice, build, reps, fill, sizesOf, List.take_succ_cons, List.take_zero, List.drop_succ_cons, List.drop_zero, Nat.reduceMul, Nat.ble, Nat.reduceLeDiff, Nat.mul_one, Nat.one_mul, writeCells, setAll, Cont.size, Cont.set, Cont.at, Cont.sub, upd_same, upd_ne, List.all_cons, List.all_nil, Option.some.injEq, exists_eq_left', Int.reduceToNat, ne_eq, and_true, true_and, List.length_cons, List.length_nil, Nat.mul_zero, Nat.zero_mul, run_loop, c21, c23, rx, ry, rz, t1, t2, t3, t4, t5, t6, t7, t8, t9, t10, w64, b2i_two, b2i_wrap, e6]
end Go.Am.Ytfomdaajpembmaa
