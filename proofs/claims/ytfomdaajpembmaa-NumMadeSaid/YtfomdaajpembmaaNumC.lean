/- Sums of numbers. -/
import Derived.Test.YtfomdaajpembmaaNumB
set_option linter.unusedSimpArgs false
set_option linter.unusedVariables false
set_option linter.defProp false
set_option maxRecDepth 10000
namespace Go.Am.Ytfomdaajpembmaa
open Go Go.Am Go.Proofs
def isT : Res AVal → Bool
  | .ok (.bool true) s => s.obs.all id
  | _ => false
theorem aliveEval : isT ((Am.callI env (Am.evalC env 100000) 10 []).run Am.st0) = true := by kernel_rfl
theorem alive_wp : Wp (callI env (evalW env) 10 []) (fun _ => none) 0 fun v _ _ => v = .bool true := by
  have key : ∃ s', (Am.callI env (Am.evalC env 100000) 10 []).run Am.st0 = .ok (.bool true) s' ∧ s'.obs.all id = true := by
    have h := aliveEval
    unfold isT at h
    split at h
    · rename_i s hs; exact ⟨s, hs, h⟩
    · cases h
  obtain ⟨s', hr, ho⟩ := key
  obtain ⟨_, _, _, dd⟩ := (Am.callI env (Am.evalC env 100000) 10 []).loc _ _ _ hr
  obtain ⟨L, q, hh⟩ := (fin_callI 10 []).out (evalC env 100000) _ _ _ hr
  refine ⟨st0, _, s', ⟨funext fun _ => rfl, rfl, rfl⟩, ⟨hh _ fun u hu => evalW_ok.2 ⟨_, q u hu⟩, ⟨s'.obs, by simp [st0], ho⟩, dd.orc rfl⟩, rfl⟩
theorem tmod_b (a : Int) : -2147483647 ≤ a.tmod 2147483648 ∧ a.tmod 2147483648 ≤ 2147483647 := by
  have h1 := Int.natAbs_tmod a 2147483648
  have h2 : a.natAbs % 2147483648 < 2147483648 := Nat.mod_lt _ (by decide)
  have h3 : (2147483648 : Int).natAbs = 2147483648 := rfl
  rw [h3] at h1
  omega
theorem may_of {x : Int} (h : -2147483647 ≤ x ∧ x ≤ 2147483647) : may x = true := by unfold may; simp; omega
theorem law7 (a b : Int) (w0 : (Lit.int .i64 a).wf = true) (w1 : (Lit.int .i64 b).wf = true) : Wp (callI env (evalW env) 7 [.int .i64 a, .int .i64 b]) (fun _ => none) 0 fun v _ _ => v = .bool true := by
  refine wp_callI ff7 fi7 ?_
  simp only [fu7, Try.f7, Option.getD_some, List.replicate, core1, cont_block_any, opg_un, u8, tyr, fgr, hkr, execOp, opd, opds, opt, ofValue, ofArr, ofList, ops2, putT, put, nth, forgetL, doCall, callV_func, builtin, one1, two2, some1, foldM2, min2, max2, blr, bCopy, intB, und, sizeOf, zeroOf, lenOf, binOp, binInt, binOther, shiftB, shiftOp, intOp, wrapI, strOp, strK, intK, slK, aggK, unOp, doPick, branch, idx, readCells, cellsOf, oneOf, aggB, cel, alloc, doAlloc, newRow, nilCheck, extract, getO, ended, resultOf, oneOrTup, rowK, loopK, moved, fieldAddr, field, part, index, sameSz, equalTop, equal, nilFn, nilPtr, nilSl, boolOf, List.getElem?_cons_succ, List.getElem?_cons_zero, List.append_eq, List.cons_append, List.nil_append, List.append_nil, List.length_cons, List.length_nil, Nat.reduceAdd, Nat.reduceSub, Nat.beq, Option.bind_some, nc0, nc1, Int.cast_ofNat_Int, int_beq, int_bne, str_beq, ↓reduceIte, Int.reduceEq, Int.reduceLT, Int.reduceLE, Int.reduceNe, Int.reduceAdd, Int.reduceSub, Int.reduceMul, Int.reduceNeg, Int.reduceGT, Int.reduceGE, ge_iff_le, gt_iff_lt, not_true_eq_false, not_false_eq_true, decide_not, decide_true, decide_false, Bool.not_true, Bool.not_false, Bool.and_true, Bool.true_and, Bool.and_false, Bool.false_and, Bool.or_true, Bool.true_or, Bool.or_false, Bool.false_or, and_true, true_and, and_self, Nat.zero_add, Nat.add_zero, Int.toNat_zero, Nat.zero_mul, wp_pure, beq_self_eq_true, bne_self_eq_false, reduceCtorEq]
  refine opv_call alive_wp fun v h n _ hv => ?_
  have hx := tmod_b a
  have hy := tmod_b b
  obtain ⟨x, rx⟩ : ∃ x, a.tmod 2147483648 = x := ⟨_, rfl⟩
  obtain ⟨y, ry⟩ : ∃ y, b.tmod 2147483648 = y := ⟨_, rfl⟩
  rw [rx] at hx
  rw [ry] at hy
  have m1 := may_of hx
  have m2 := may_of hy
  have m3 : may (-x) = true := may_of ⟨by omega, by omega⟩
  have t1 : oneV 143 x = (-x, 0) := by simp [oneV, m1]
  have t2 : oneV 143 (-x) = (x, 0) := by simp [oneV, m3]
  have t3 : oneV 144 x = ((x.natAbs : Int), 0) := by simp [oneV, m1]
  have t4 : oneV 139 x = (x + 1, 0) := by simp [oneV, m1]
  have t5 : twoR 147 x y = (x + y, 0) := by simp [twoR, isTwo, twoV, m1, m2]
  have t6 : twoR 147 y x = (y + x, 0) := by simp [twoR, isTwo, twoV, m1, m2]
  have t7 : twoR 148 x y = (x - y, 0) := by simp [twoR, isTwo, twoV, m1, m2]
  have e1 : x + y = y + x := by omega
  have e2 : y + x - y = x := by omega
  have e3 : x - y + y = x := by omega
  have e4 : ¬ ((x.natAbs : Int) < 0) := by omega
  have e5 : x + 1 - 1 = x := by omega
  subst hv
  by_cases e6 : x < 0
  · have e7 : ((x.natAbs : Int) = x) = False := eq_false (by omega)
    have e8 : (x.natAbs : Int) = -x := by omega
    have e9 : ¬ (-x = x) := by omega
    have e10 : ¬ (-x < 0) := by omega
    rw [e8] at t3
    simp (disch := omega) only [core1, cont_block_any, opg_un, u8, tyr, fgr, hkr, execOp, opd, opds, opt, ofValue, ofArr, ofList, ops2, putT, put, nth, forgetL, doCall, callV_func, builtin, one1, two2, some1, foldM2, min2, max2, blr, bCopy, intB, und, sizeOf, zeroOf, lenOf, binOp, binInt, binOther, shiftB, shiftOp, intOp, wrapI, strOp, strK, intK, slK, aggK, unOp, doPick, branch, idx, readCells, cellsOf, oneOf, aggB, cel, alloc, doAlloc, newRow, nilCheck, extract, getO, ended, resultOf, oneOrTup, rowK, loopK, moved, fieldAddr, field, part, index, sameSz, equalTop, equal, nilFn, nilPtr, nilSl, boolOf, List.getElem?_cons_succ, List.getElem?_cons_zero, List.append_eq, List.cons_append, List.nil_append, List.append_nil, List.length_cons, List.length_nil, Nat.reduceAdd, Nat.reduceSub, Nat.beq, Option.bind_some, nc0, nc1, Int.cast_ofNat_Int, int_beq, int_bne, str_beq, ↓reduceIte, Int.reduceEq, Int.reduceLT, Int.reduceLE, Int.reduceNe, Int.reduceAdd, Int.reduceSub, Int.reduceMul, Int.reduceNeg, Int.reduceGT, Int.reduceGE, ge_iff_le, gt_iff_lt, not_true_eq_false, not_false_eq_true, decide_not, decide_true, decide_false, Bool.not_true, Bool.not_false, Bool.and_true, Bool.true_and, Bool.and_false, Bool.false_and, Bool.or_true, Bool.true_or, Bool.or_false, Bool.false_or, and_true, true_and, and_self, Nat.zero_add, Nat.add_zero, Int.toNat_zero, Nat.zero_mul, wp_pure, beq_self_eq_true, bne_self_eq_false, reduceCtorEq, c19, c21, rx, ry, t1, t2, t3, t4, t5, t6, t7, w64, e1, e2, e3, e5, e9, e10]
  · have e8 : (x.natAbs : Int) = x := by omega
    rw [e8] at t3
    simp (disch := omega) only [core1, cont_block_any, opg_un, u8, tyr, fgr, hkr, execOp, opd, opds, opt, ofValue, ofArr, ofList, ops2, putT, put, nth, forgetL, doCall, callV_func, builtin, one1, two2, some1, foldM2, min2, max2, blr, bCopy, intB, und, sizeOf, zeroOf, lenOf, binOp, binInt, binOther, shiftB, shiftOp, intOp, wrapI, strOp, strK, intK, slK, aggK, unOp, doPick, branch, idx, readCells, cellsOf, oneOf, aggB, cel, alloc, doAlloc, newRow, nilCheck, extract, getO, ended, resultOf, oneOrTup, rowK, loopK, moved, fieldAddr, field, part, index, sameSz, equalTop, equal, nilFn, nilPtr, nilSl, boolOf, List.getElem?_cons_succ, List.getElem?_cons_zero, List.append_eq, List.cons_append, List.nil_append, List.append_nil, List.length_cons, List.length_nil, Nat.reduceAdd, Nat.reduceSub, Nat.beq, Option.bind_some, nc0, nc1, Int.cast_ofNat_Int, int_beq, int_bne, str_beq, ↓reduceIte, Int.reduceEq, Int.reduceLT, Int.reduceLE, Int.reduceNe, Int.reduceAdd, Int.reduceSub, Int.reduceMul, Int.reduceNeg, Int.reduceGT, Int.reduceGE, ge_iff_le, gt_iff_lt, not_true_eq_false, not_false_eq_true, decide_not, decide_true, decide_false, Bool.not_true, Bool.not_false, Bool.and_true, Bool.true_and, Bool.and_false, Bool.false_and, Bool.or_true, Bool.true_or, Bool.or_false, Bool.false_or, and_true, true_and, and_self, Nat.zero_add, Nat.add_zero, Int.toNat_zero, Nat.zero_mul, wp_pure, beq_self_eq_true, bne_self_eq_false, reduceCtorEq, c19, c21, rx, ry, t1, t2, t3, t4, t5, t6, t7, w64, e1, e2, e3, e5, e6]
end Go.Am.Ytfomdaajpembmaa
