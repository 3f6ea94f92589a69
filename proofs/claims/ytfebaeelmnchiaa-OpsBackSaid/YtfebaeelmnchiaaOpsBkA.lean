/- The functions that the statement reaches, gone through. -/
import Derived.Test.YtfebaeelmnchiaaEnv
import Derived.Test.YtfebaeelmnchiaaAoK
set_option linter.unusedSimpArgs false
set_option linter.unusedVariables false
set_option linter.defProp false
set_option maxRecDepth 10000
namespace Go.Am.Ytfebaeelmnchiaa
open Go Go.Am Go.Proofs
/- Which scripts are burnt. -/
theorem t23 : und env 23 = M.pure (.slice 5) := rfl
theorem t9 : und env 9 = M.pure .string := rfl
theorem t5 : und env 5 = M.pure (.int .u8) := rfl
theorem s5 : sizeOf env 5 = M.pure 1 := rfl
/- Small functions of operations. -/
def headV (c : Int) : Int := if c = 77 then 2 else if c = 76 then 1 else 0
theorem f29 (h : Hp) (n : Nat) (c : Int) : Wp (callI env (evalW env) 29 [.int .u8 c]) h n fun v' h' n' => v' = .int .i64 (headV c) ∧ h' = h ∧ n' = n := by
  refine wp_callI ff29 fi29 ?_
  unfold headV
  by_cases e1 : c = 77
  · simp (disch := omega) only [fu29, Try.f29, Option.getD_some, List.replicate, core1, cont_block_any, opg_un, u8, tyr, fgr, hkr, execOp, opd, opds, opt, ofValue, ofArr, ofList, ops2, putT, put, nth, forgetL, doCall, callV_func, builtin, one1, two2, some1, foldM2, min2, max2, blr, bCopy, intB, und, sizeOf, zeroOf, lenOf, bor, binInt, binOther, shiftB, shiftOp, intOp, wrapI, strOp, strK, intK, slK, aggK, unOp, doPick, branch, idx, readCells, cellsOf, oneOf, aggB, cel, alloc, doAlloc, newRow, nilCheck, extract, getO, ended, resultOf, oneOrTup, rowK, loopK, moved, fieldAddr, field, part, index, sameSz, equalTop, equal, nilFn, nilPtr, nilSl1, nilSl2, nilSl3, boolOf, List.getElem?_cons_succ, List.getElem?_cons_zero, List.append_eq, List.cons_append, List.nil_append, List.append_nil, List.length_cons, List.length_nil, Nat.reduceAdd, Nat.reduceSub, Nat.beq, Option.bind_some, nc0, nc1, Int.cast_ofNat_Int, int_beq, int_bne, str_beq, ↓reduceIte, Int.reduceEq, Int.reduceLT, Int.reduceLE, Int.reduceNe, Int.reduceAdd, Int.reduceSub, Int.reduceMul, Int.reduceNeg, Int.reduceGT, Int.reduceGE, ge_iff_le, gt_iff_lt, not_true_eq_false, not_false_eq_true, decide_not, decide_true, decide_false, Bool.not_true, Bool.not_false, Bool.and_true, Bool.true_and, Bool.and_false, Bool.false_and, Bool.or_true, Bool.true_or, Bool.or_false, Bool.false_or, and_true, true_and, and_self, Nat.zero_add, Nat.add_zero, Int.toNat_zero, Nat.zero_mul, wp_pure, beq_self_eq_true, bne_self_eq_false, reduceCtorEq, e1, w64, Nat.beq]
  · by_cases e2 : c = 76
    · simp (disch := omega) only [fu29, Try.f29, Option.getD_some, List.replicate, core1, cont_block_any, opg_un, u8, tyr, fgr, hkr, execOp, opd, opds, opt, ofValue, ofArr, ofList, ops2, putT, put, nth, forgetL, doCall, callV_func, builtin, one1, two2, some1, foldM2, min2, max2, blr, bCopy, intB, und, sizeOf, zeroOf, lenOf, bor, binInt, binOther, shiftB, shiftOp, intOp, wrapI, strOp, strK, intK, slK, aggK, unOp, doPick, branch, idx, readCells, cellsOf, oneOf, aggB, cel, alloc, doAlloc, newRow, nilCheck, extract, getO, ended, resultOf, oneOrTup, rowK, loopK, moved, fieldAddr, field, part, index, sameSz, equalTop, equal, nilFn, nilPtr, nilSl1, nilSl2, nilSl3, boolOf, List.getElem?_cons_succ, List.getElem?_cons_zero, List.append_eq, List.cons_append, List.nil_append, List.append_nil, List.length_cons, List.length_nil, Nat.reduceAdd, Nat.reduceSub, Nat.beq, Option.bind_some, nc0, nc1, Int.cast_ofNat_Int, int_beq, int_bne, str_beq, ↓reduceIte, Int.reduceEq, Int.reduceLT, Int.reduceLE, Int.reduceNe, Int.reduceAdd, Int.reduceSub, Int.reduceMul, Int.reduceNeg, Int.reduceGT, Int.reduceGE, ge_iff_le, gt_iff_lt, not_true_eq_false, not_false_eq_true, decide_not, decide_true, decide_false, Bool.not_true, Bool.not_false, Bool.and_true, Bool.true_and, Bool.and_false, Bool.false_and, Bool.or_true, Bool.true_or, Bool.or_false, Bool.false_or, and_true, true_and, and_self, Nat.zero_add, Nat.add_zero, Int.toNat_zero, Nat.zero_mul, wp_pure, beq_self_eq_true, bne_self_eq_false, reduceCtorEq, e1, e2, w64, Nat.beq]
    · simp (disch := omega) only [fu29, Try.f29, Option.getD_some, List.replicate, core1, cont_block_any, opg_un, u8, tyr, fgr, hkr, execOp, opd, opds, opt, ofValue, ofArr, ofList, ops2, putT, put, nth, forgetL, doCall, callV_func, builtin, one1, two2, some1, foldM2, min2, max2, blr, bCopy, intB, und, sizeOf, zeroOf, lenOf, bor, binInt, binOther, shiftB, shiftOp, intOp, wrapI, strOp, strK, intK, slK, aggK, unOp, doPick, branch, idx, readCells, cellsOf, oneOf, aggB, cel, alloc, doAlloc, newRow, nilCheck, extract, getO, ended, resultOf, oneOrTup, rowK, loopK, moved, fieldAddr, field, part, index, sameSz, equalTop, equal, nilFn, nilPtr, nilSl1, nilSl2, nilSl3, boolOf, List.getElem?_cons_succ, List.getElem?_cons_zero, List.append_eq, List.cons_append, List.nil_append, List.append_nil, List.length_cons, List.length_nil, Nat.reduceAdd, Nat.reduceSub, Nat.beq, Option.bind_some, nc0, nc1, Int.cast_ofNat_Int, int_beq, int_bne, str_beq, ↓reduceIte, Int.reduceEq, Int.reduceLT, Int.reduceLE, Int.reduceNe, Int.reduceAdd, Int.reduceSub, Int.reduceMul, Int.reduceNeg, Int.reduceGT, Int.reduceGE, ge_iff_le, gt_iff_lt, not_true_eq_false, not_false_eq_true, decide_not, decide_true, decide_false, Bool.not_true, Bool.not_false, Bool.and_true, Bool.true_and, Bool.and_false, Bool.false_and, Bool.or_true, Bool.true_or, Bool.or_false, Bool.false_or, and_true, true_and, and_self, Nat.zero_add, Nat.add_zero, Int.toNat_zero, Nat.zero_mul, wp_pure, beq_self_eq_true, bne_self_eq_false, reduceCtorEq, e1, e2, w64, Nat.beq]
/-- An operation's value. -/
def opA (c : UInt8) (d : AVal) : AVal := .agg [u8 c, d]
def mayV (c : UInt8) (n : Nat) : Bool :=
  if c.toNat = 76 then decide (n ≤ 255) else if c.toNat = 77 then decide (n ≤ 65535) else if c.toNat ≤ 75 then decide (n = c.toNat) else decide (n = 0)
def Said (b : AVal) (h : Hp) (n : Nat) (v : AVal) (h' : Hp) (n' : Nat) : Prop := v = b ∧ Old h h' n
theorem dcast (p q : Prop) [Decidable p] [Decidable q] (h : p ↔ q) : decide p = decide q := by
  by_cases hp : p
  · rw [decide_eq_true hp, decide_eq_true (h.1 hp)]
  · rw [decide_eq_false hp, decide_eq_false (fun hq => hp (h.2 hq))]
theorem f28 (c : UInt8) (d : AVal) (l : List UInt8) (h : Hp) (n : Nat) (hd : Bytes h d l) : Wp (callI env (evalW env) 28 [opA c d]) h n (Said (.bool (mayV c l.length)) h n) := by
  refine wp_callI ff28 fi28 ?_
  unfold mayV opA
  have hlen := fun {ts} => hd.bLen (E := env) (t := 23) (ts := ts) t23
  by_cases e1 : c.toNat = 76
  · have i1 : ((c.toNat : Nat) : Int) = 76 := by omega
    rw [if_pos e1]
    simp (disch := omega) only [fu28, Try.f28, Option.getD_some, List.replicate, core1, cont_block_any, opg_un, u8, tyr, fgr, hkr, execOp, opd, opds, opt, ofValue, ofArr, ofList, ops2, putT, put, nth, forgetL, doCall, callV_func, builtin, one1, two2, some1, foldM2, min2, max2, blr, bCopy, intB, und, sizeOf, zeroOf, lenOf, bor, binInt, binOther, shiftB, shiftOp, intOp, wrapI, strOp, strK, intK, slK, aggK, unOp, doPick, branch, idx, readCells, cellsOf, oneOf, aggB, cel, alloc, doAlloc, newRow, nilCheck, extract, getO, ended, resultOf, oneOrTup, rowK, loopK, moved, fieldAddr, field, part, index, sameSz, equalTop, equal, nilFn, nilPtr, nilSl1, nilSl2, nilSl3, boolOf, List.getElem?_cons_succ, List.getElem?_cons_zero, List.append_eq, List.cons_append, List.nil_append, List.append_nil, List.length_cons, List.length_nil, Nat.reduceAdd, Nat.reduceSub, Nat.beq, Option.bind_some, nc0, nc1, Int.cast_ofNat_Int, int_beq, int_bne, str_beq, ↓reduceIte, Int.reduceEq, Int.reduceLT, Int.reduceLE, Int.reduceNe, Int.reduceAdd, Int.reduceSub, Int.reduceMul, Int.reduceNeg, Int.reduceGT, Int.reduceGE, ge_iff_le, gt_iff_lt, not_true_eq_false, not_false_eq_true, decide_not, decide_true, decide_false, Bool.not_true, Bool.not_false, Bool.and_true, Bool.true_and, Bool.and_false, Bool.false_and, Bool.or_true, Bool.true_or, Bool.or_false, Bool.false_or, and_true, true_and, and_self, Nat.zero_add, Nat.add_zero, Int.toNat_zero, Nat.zero_mul, wp_pure, beq_self_eq_true, bne_self_eq_false, reduceCtorEq, memr, buildSlice, build, reps, fill, sizesOf, List.take_succ_cons, List.take_zero, List.drop_succ_cons, List.drop_zero, Nat.reduceMul, Nat.ble, Nat.reduceLeDiff, Nat.mul_one, Nat.one_mul, writeCells, setAll, Cont.size, Cont.set, Cont.at, Cont.sub, upd_same, upd_ne, List.all_cons, List.all_nil, Option.some.injEq, exists_eq_left', Int.reduceToNat, ne_eq, and_true, true_and, List.length_cons, List.length_nil, Nat.mul_zero, Nat.zero_mul, hlen, i1]
    exact ⟨by rw [dcast _ _ (show ((l.length : Nat) : Int) ≤ 255 ↔ l.length ≤ 255 by omega)], (Old.refl _ _).upd (Nat.le_refl _)⟩
  · rw [if_neg e1]
    have i1 : ¬ ((c.toNat : Nat) : Int) = 76 := by omega
    by_cases e2 : c.toNat = 77
    · have i2 : ((c.toNat : Nat) : Int) = 77 := by omega
      rw [if_pos e2]
      simp (disch := omega) only [fu28, Try.f28, Option.getD_some, List.replicate, core1, cont_block_any, opg_un, u8, tyr, fgr, hkr, execOp, opd, opds, opt, ofValue, ofArr, ofList, ops2, putT, put, nth, forgetL, doCall, callV_func, builtin, one1, two2, some1, foldM2, min2, max2, blr, bCopy, intB, und, sizeOf, zeroOf, lenOf, bor, binInt, binOther, shiftB, shiftOp, intOp, wrapI, strOp, strK, intK, slK, aggK, unOp, doPick, branch, idx, readCells, cellsOf, oneOf, aggB, cel, alloc, doAlloc, newRow, nilCheck, extract, getO, ended, resultOf, oneOrTup, rowK, loopK, moved, fieldAddr, field, part, index, sameSz, equalTop, equal, nilFn, nilPtr, nilSl1, nilSl2, nilSl3, boolOf, List.getElem?_cons_succ, List.getElem?_cons_zero, List.append_eq, List.cons_append, List.nil_append, List.append_nil, List.length_cons, List.length_nil, Nat.reduceAdd, Nat.reduceSub, Nat.beq, Option.bind_some, nc0, nc1, Int.cast_ofNat_Int, int_beq, int_bne, str_beq, ↓reduceIte, Int.reduceEq, Int.reduceLT, Int.reduceLE, Int.reduceNe, Int.reduceAdd, Int.reduceSub, Int.reduceMul, Int.reduceNeg, Int.reduceGT, Int.reduceGE, ge_iff_le, gt_iff_lt, not_true_eq_false, not_false_eq_true, decide_not, decide_true, decide_false, Bool.not_true, Bool.not_false, Bool.and_true, Bool.true_and, Bool.and_false, Bool.false_and, Bool.or_true, Bool.true_or, Bool.or_false, Bool.false_or, and_true, true_and, and_self, Nat.zero_add, Nat.add_zero, Int.toNat_zero, Nat.zero_mul, wp_pure, beq_self_eq_true, bne_self_eq_false, reduceCtorEq, memr, buildSlice, build, reps, fill, sizesOf, List.take_succ_cons, List.take_zero, List.drop_succ_cons, List.drop_zero, Nat.reduceMul, Nat.ble, Nat.reduceLeDiff, Nat.mul_one, Nat.one_mul, writeCells, setAll, Cont.size, Cont.set, Cont.at, Cont.sub, upd_same, upd_ne, List.all_cons, List.all_nil, Option.some.injEq, exists_eq_left', Int.reduceToNat, ne_eq, and_true, true_and, List.length_cons, List.length_nil, Nat.mul_zero, Nat.zero_mul, hlen, i1, i2]
      exact ⟨by rw [dcast _ _ (show ((l.length : Nat) : Int) ≤ 65535 ↔ l.length ≤ 65535 by omega)], (Old.refl _ _).upd (Nat.le_refl _)⟩
    · rw [if_neg e2]
      have i2 : ¬ ((c.toNat : Nat) : Int) = 77 := by omega
      by_cases e3 : c.toNat ≤ 75
      · have i3 : ((c.toNat : Nat) : Int) ≤ 75 := by omega
        rw [if_pos e3]
        have hw : IntKind.i64.wrap ((c.toNat : Nat) : Int) = ((c.toNat : Nat) : Int) := w64 (by omega) (by omega)
        simp (disch := omega) only [fu28, Try.f28, Option.getD_some, List.replicate, core1, cont_block_any, opg_un, u8, tyr, fgr, hkr, execOp, opd, opds, opt, ofValue, ofArr, ofList, ops2, putT, put, nth, forgetL, doCall, callV_func, builtin, one1, two2, some1, foldM2, min2, max2, blr, bCopy, intB, und, sizeOf, zeroOf, lenOf, bor, binInt, binOther, shiftB, shiftOp, intOp, wrapI, strOp, strK, intK, slK, aggK, unOp, doPick, branch, idx, readCells, cellsOf, oneOf, aggB, cel, alloc, doAlloc, newRow, nilCheck, extract, getO, ended, resultOf, oneOrTup, rowK, loopK, moved, fieldAddr, field, part, index, sameSz, equalTop, equal, nilFn, nilPtr, nilSl1, nilSl2, nilSl3, boolOf, List.getElem?_cons_succ, List.getElem?_cons_zero, List.append_eq, List.cons_append, List.nil_append, List.append_nil, List.length_cons, List.length_nil, Nat.reduceAdd, Nat.reduceSub, Nat.beq, Option.bind_some, nc0, nc1, Int.cast_ofNat_Int, int_beq, int_bne, str_beq, ↓reduceIte, Int.reduceEq, Int.reduceLT, Int.reduceLE, Int.reduceNe, Int.reduceAdd, Int.reduceSub, Int.reduceMul, Int.reduceNeg, Int.reduceGT, Int.reduceGE, ge_iff_le, gt_iff_lt, not_true_eq_false, not_false_eq_true, decide_not, decide_true, decide_false, Bool.not_true, Bool.not_false, Bool.and_true, Bool.true_and, Bool.and_false, Bool.false_and, Bool.or_true, Bool.true_or, Bool.or_false, Bool.false_or, and_true, true_and, and_self, Nat.zero_add, Nat.add_zero, Int.toNat_zero, Nat.zero_mul, wp_pure, beq_self_eq_true, bne_self_eq_false, reduceCtorEq, memr, buildSlice, build, reps, fill, sizesOf, List.take_succ_cons, List.take_zero, List.drop_succ_cons, List.drop_zero, Nat.reduceMul, Nat.ble, Nat.reduceLeDiff, Nat.mul_one, Nat.one_mul, writeCells, setAll, Cont.size, Cont.set, Cont.at, Cont.sub, upd_same, upd_ne, List.all_cons, List.all_nil, Option.some.injEq, exists_eq_left', Int.reduceToNat, ne_eq, and_true, true_and, List.length_cons, List.length_nil, Nat.mul_zero, Nat.zero_mul, convert, convStr, isU8, hlen, i1, i2, i3, hw]
        exact ⟨by rw [dcast _ _ (show ((l.length : Nat) : Int) = ((c.toNat : Nat) : Int) ↔ l.length = c.toNat by omega)], (Old.refl _ _).upd (Nat.le_refl _)⟩
      · have i3 : ¬ ((c.toNat : Nat) : Int) ≤ 75 := by omega
        rw [if_neg e3]
        simp (disch := omega) only [fu28, Try.f28, Option.getD_some, List.replicate, core1, cont_block_any, opg_un, u8, tyr, fgr, hkr, execOp, opd, opds, opt, ofValue, ofArr, ofList, ops2, putT, put, nth, forgetL, doCall, callV_func, builtin, one1, two2, some1, foldM2, min2, max2, blr, bCopy, intB, und, sizeOf, zeroOf, lenOf, bor, binInt, binOther, shiftB, shiftOp, intOp, wrapI, strOp, strK, intK, slK, aggK, unOp, doPick, branch, idx, readCells, cellsOf, oneOf, aggB, cel, alloc, doAlloc, newRow, nilCheck, extract, getO, ended, resultOf, oneOrTup, rowK, loopK, moved, fieldAddr, field, part, index, sameSz, equalTop, equal, nilFn, nilPtr, nilSl1, nilSl2, nilSl3, boolOf, List.getElem?_cons_succ, List.getElem?_cons_zero, List.append_eq, List.cons_append, List.nil_append, List.append_nil, List.length_cons, List.length_nil, Nat.reduceAdd, Nat.reduceSub, Nat.beq, Option.bind_some, nc0, nc1, Int.cast_ofNat_Int, int_beq, int_bne, str_beq, ↓reduceIte, Int.reduceEq, Int.reduceLT, Int.reduceLE, Int.reduceNe, Int.reduceAdd, Int.reduceSub, Int.reduceMul, Int.reduceNeg, Int.reduceGT, Int.reduceGE, ge_iff_le, gt_iff_lt, not_true_eq_false, not_false_eq_true, decide_not, decide_true, decide_false, Bool.not_true, Bool.not_false, Bool.and_true, Bool.true_and, Bool.and_false, Bool.false_and, Bool.or_true, Bool.true_or, Bool.or_false, Bool.false_or, and_true, true_and, and_self, Nat.zero_add, Nat.add_zero, Int.toNat_zero, Nat.zero_mul, wp_pure, beq_self_eq_true, bne_self_eq_false, reduceCtorEq, memr, buildSlice, build, reps, fill, sizesOf, List.take_succ_cons, List.take_zero, List.drop_succ_cons, List.drop_zero, Nat.reduceMul, Nat.ble, Nat.reduceLeDiff, Nat.mul_one, Nat.one_mul, writeCells, setAll, Cont.size, Cont.set, Cont.at, Cont.sub, upd_same, upd_ne, List.all_cons, List.all_nil, Option.some.injEq, exists_eq_left', Int.reduceToNat, ne_eq, and_true, true_and, List.length_cons, List.length_nil, Nat.mul_zero, Nat.zero_mul, hlen, i1, i2, i3]
        exact ⟨by rw [dcast _ _ (show ((l.length : Nat) : Int) = 0 ↔ l.length = 0 by omega)], (Old.refl _ _).upd (Nat.le_refl _)⟩
theorem f35 (v : AVal) (l : List UInt8) (h : Hp) (n : Nat) (hb : Bytes h v l) (hbel : Below0 n v) (hl : l.length ≤ 100000000) : Wp (callI env (evalW env) 35 [v]) h n (New0 h n l) := by
  refine wp_callI ff35 fi35 ?_
  have hn := hb.nil
  cases hv : isNils v with
  | true =>
    have := hn.2 hv
    subst this
    simp only [fu35, Try.f35, Option.getD_some, List.replicate, core1, cont_block_any, opg_un, u8, tyr, fgr, hkr, execOp, opd, opds, opt, ofValue, ofArr, ofList, ops2, putT, put, nth, forgetL, doCall, callV_func, builtin, one1, two2, some1, foldM2, min2, max2, blr, bCopy, intB, und, sizeOf, zeroOf, lenOf, bor, binInt, binOther, shiftB, shiftOp, intOp, wrapI, strOp, strK, intK, slK, aggK, unOp, doPick, branch, idx, readCells, cellsOf, oneOf, aggB, cel, alloc, doAlloc, newRow, nilCheck, extract, getO, ended, resultOf, oneOrTup, rowK, loopK, moved, fieldAddr, field, part, index, sameSz, equalTop, equal, nilFn, nilPtr, nilSl1, nilSl2, nilSl3, boolOf, List.getElem?_cons_succ, List.getElem?_cons_zero, List.append_eq, List.cons_append, List.nil_append, List.append_nil, List.length_cons, List.length_nil, Nat.reduceAdd, Nat.reduceSub, Nat.beq, Option.bind_some, nc0, nc1, Int.cast_ofNat_Int, int_beq, int_bne, str_beq, ↓reduceIte, Int.reduceEq, Int.reduceLT, Int.reduceLE, Int.reduceNe, Int.reduceAdd, Int.reduceSub, Int.reduceMul, Int.reduceNeg, Int.reduceGT, Int.reduceGE, ge_iff_le, gt_iff_lt, not_true_eq_false, not_false_eq_true, decide_not, decide_true, decide_false, Bool.not_true, Bool.not_false, Bool.and_true, Bool.true_and, Bool.and_false, Bool.false_and, Bool.or_true, Bool.true_or, Bool.or_false, Bool.false_or, and_true, true_and, and_self, Nat.zero_add, Nat.add_zero, Int.toNat_zero, Nat.zero_mul, wp_pure, beq_self_eq_true, bne_self_eq_false, reduceCtorEq, hb.eqNil t23, hv]
    exact ⟨5, 0, .nil, (fun j hj => by cases hj), Old.refl _ _⟩
  | false =>
    simp only [fu35, Try.f35, Option.getD_some, List.replicate, core1, cont_block_any, opg_un, u8, tyr, fgr, hkr, execOp, opd, opds, opt, ofValue, ofArr, ofList, ops2, putT, put, nth, forgetL, doCall, callV_func, builtin, one1, two2, some1, foldM2, min2, max2, blr, bCopy, intB, und, sizeOf, zeroOf, lenOf, bor, binInt, binOther, shiftB, shiftOp, intOp, wrapI, strOp, strK, intK, slK, aggK, unOp, doPick, branch, idx, readCells, cellsOf, oneOf, aggB, cel, alloc, doAlloc, newRow, nilCheck, extract, getO, ended, resultOf, oneOrTup, rowK, loopK, moved, fieldAddr, field, part, index, sameSz, equalTop, equal, nilFn, nilPtr, nilSl1, nilSl2, nilSl3, boolOf, List.getElem?_cons_succ, List.getElem?_cons_zero, List.append_eq, List.cons_append, List.nil_append, List.append_nil, List.length_cons, List.length_nil, Nat.reduceAdd, Nat.reduceSub, Nat.beq, Option.bind_some, nc0, nc1, Int.cast_ofNat_Int, int_beq, int_bne, str_beq, ↓reduceIte, Int.reduceEq, Int.reduceLT, Int.reduceLE, Int.reduceNe, Int.reduceAdd, Int.reduceSub, Int.reduceMul, Int.reduceNeg, Int.reduceGT, Int.reduceGE, ge_iff_le, gt_iff_lt, not_true_eq_false, not_false_eq_true, decide_not, decide_true, decide_false, Bool.not_true, Bool.not_false, Bool.and_true, Bool.true_and, Bool.and_false, Bool.false_and, Bool.or_true, Bool.true_or, Bool.or_false, Bool.false_or, and_true, true_and, and_self, Nat.zero_add, Nat.add_zero, Int.toNat_zero, Nat.zero_mul, wp_pure, beq_self_eq_true, bne_self_eq_false, reduceCtorEq, hb.eqNil t23, hv, buildSlice, reps, fill, Nat.zero_mul, Nat.ble, opv_new]
    have hold0 : Old h (upd h n (some (Blk.row (Cont.l []) 5))) n := (Old.refl _ _).upd (Nat.le_refl _)
    refine app_bytes (i := ⟨.int .u8, 1, 1, .int .u8 0⟩) (e := 5) (xs := []) (cnt := 0) (.full n 0 [] 5 (by omega) (upd_same _ _ _) rfl) (l := l) ?_ rfl rfl ti5 rfl (by simp only [Nat.mul_one]; omega) (by omega) ?_
    · exact hb.old (n := n) hbel hold0
    intro s1 h1 n1 hn1 ho1 hid1 hold1
    simp only [core1, cont_block_any, opg_un, u8, tyr, fgr, hkr, execOp, opd, opds, opt, ofValue, ofArr, ofList, ops2, putT, put, nth, forgetL, doCall, callV_func, builtin, one1, two2, some1, foldM2, min2, max2, blr, bCopy, intB, und, sizeOf, zeroOf, lenOf, bor, binInt, binOther, shiftB, shiftOp, intOp, wrapI, strOp, strK, intK, slK, aggK, unOp, doPick, branch, idx, readCells, cellsOf, oneOf, aggB, cel, alloc, doAlloc, newRow, nilCheck, extract, getO, ended, resultOf, oneOrTup, rowK, loopK, moved, fieldAddr, field, part, index, sameSz, equalTop, equal, nilFn, nilPtr, nilSl1, nilSl2, nilSl3, boolOf, List.getElem?_cons_succ, List.getElem?_cons_zero, List.append_eq, List.cons_append, List.nil_append, List.append_nil, List.length_cons, List.length_nil, Nat.reduceAdd, Nat.reduceSub, Nat.beq, Option.bind_some, nc0, nc1, Int.cast_ofNat_Int, int_beq, int_bne, str_beq, ↓reduceIte, Int.reduceEq, Int.reduceLT, Int.reduceLE, Int.reduceNe, Int.reduceAdd, Int.reduceSub, Int.reduceMul, Int.reduceNeg, Int.reduceGT, Int.reduceGE, ge_iff_le, gt_iff_lt, not_true_eq_false, not_false_eq_true, decide_not, decide_true, decide_false, Bool.not_true, Bool.not_false, Bool.and_true, Bool.true_and, Bool.and_false, Bool.false_and, Bool.or_true, Bool.true_or, Bool.or_false, Bool.false_or, and_true, true_and, and_self, Nat.zero_add, Nat.add_zero, Int.toNat_zero, Nat.zero_mul, wp_pure, beq_self_eq_true, bne_self_eq_false, reduceCtorEq]
    refine ⟨5, _, by simpa using ho1, fun j hj => ?_, (old_hold (N := n) (by omega) (fun j hj => by injection hj with hj; subst hj; exact Nat.le_refl _) hold1 |> fun o => hold0.trans o (Nat.le_refl _))⟩
    rcases hid1 with ⟨e, _, _⟩ | ⟨e, _⟩
    · rw [e] at hj; injection hj with hj; omega
    · rw [e] at hj; injection hj with hj; omega
theorem may_len {c : UInt8} {n : Nat} (h : mayV c n = true) : n ≤ 65535 := by
  unfold mayV at h
  (repeat' split at h) <;> simp only [decide_eq_true_eq] at h <;> omega
/- How long the operation is with which a script begins. -/
def szV (c : UInt8) : Nat := if c.toNat = 77 then 2 else if c.toNat = 76 then 1 else 0
theorem head_sz (c : UInt8) : headV (c.toNat : Int) = ((szV c : Nat) : Int) := by
  unfold headV szV
  by_cases e1 : c.toNat = 77
  · rw [if_pos (by omega), if_pos e1]; rfl
  · rw [if_neg (by omega), if_neg e1]
    by_cases e2 : c.toNat = 76
    · rw [if_pos (by omega), if_pos e2]; rfl
    · rw [if_neg (by omega), if_neg e2]; rfl
def daV (c : UInt8) (r : List UInt8) : Nat :=
  if c.toNat = 77 then (r.getD 0 0).toNat + 256 * (r.getD 1 0).toNat else if c.toNat = 76 then (r.getD 0 0).toNat else if c.toNat ≤ 75 then c.toNat else 0
def okV (c : UInt8) (r : List UInt8) : Bool := decide (szV c ≤ r.length) && decide (szV c + daV c r ≤ r.length)
def longV (c : UInt8) (r : List UInt8) : AVal := match okV c r with
  | true => .tup [.int .i64 (daV c r : Nat), .int .i64 (1 + szV c : Nat)]
  | false => .tup [.int .i64 (-1), .int .i64 0]
theorem fine40 (bs : List Nat) (hbs : bs = [0, 1, 3, 0, 8, 24, 56, 127, 255]) (r2 r5 : List Nat) (n : Nat) :
    fine bs [⟨8, [], [], n, n⟩, ⟨7, [], [], n, n⟩, ⟨6, [], [], n, n⟩, ⟨5, r5, [], n, n⟩, ⟨4, [], [], n, n⟩, ⟨3, [], [], n, n⟩, ⟨2, r2, [], n, n⟩, ⟨1, [], [], n, n⟩, ⟨0, [], [], n, n⟩] = true := by
  simp only [fine, List.all_cons, List.all_nil, clash_pl, clash_pr, clash_rr, Bool.not_false, Bool.true_or, Bool.and_true]
theorem f40 (v : AVal) (c : UInt8) (r : List UInt8) (h : Hp) (n : Nat) (hb : Bytes h v (c :: r)) (hroom : Roomy v) (hf : Free h n) (hl : r.length ≤ 100000000) : Wp (callI env (evalW env) 40 [v]) h n fun v' h' n' => v' = longV c r ∧ h' = h ∧ n' = n := by
  refine wp_callI ff40 fi40 ?_
  have h00 : (0 : Int) ≤ 0 ∧ (0 : Int) < (((c :: r).length : Nat) : Int) := ⟨Int.le_refl 0, by simp only [List.length_cons]; omega⟩
  have hlt : 0 < (c :: r).length := by simp
  simp only [fu40, Try.f40, Option.getD_some, List.replicate, core1, cont_block_any, opg_un, u8, tyr, fgr, hkr, execOp, opd, opds, opt, ofValue, ofArr, ofList, ops2, putT, put, nth, forgetL, doCall, callV_func, builtin, one1, two2, some1, foldM2, min2, max2, blr, bCopy, intB, und, sizeOf, zeroOf, lenOf, bor, binInt, binOther, shiftB, shiftOp, intOp, wrapI, strOp, strK, intK, slK, aggK, unOp, doPick, branch, idx, readCells, cellsOf, oneOf, aggB, cel, alloc, doAlloc, newRow, nilCheck, extract, getO, ended, resultOf, oneOrTup, rowK, loopK, moved, fieldAddr, field, part, index, sameSz, equalTop, equal, nilFn, nilPtr, nilSl1, nilSl2, nilSl3, boolOf, List.getElem?_cons_succ, List.getElem?_cons_zero, List.append_eq, List.cons_append, List.nil_append, List.append_nil, List.length_cons, List.length_nil, Nat.reduceAdd, Nat.reduceSub, Nat.beq, Option.bind_some, nc0, nc1, Int.cast_ofNat_Int, int_beq, int_bne, str_beq, ↓reduceIte, Int.reduceEq, Int.reduceLT, Int.reduceLE, Int.reduceNe, Int.reduceAdd, Int.reduceSub, Int.reduceMul, Int.reduceNeg, Int.reduceGT, Int.reduceGE, ge_iff_le, gt_iff_lt, not_true_eq_false, not_false_eq_true, decide_not, decide_true, decide_false, Bool.not_true, Bool.not_false, Bool.and_true, Bool.true_and, Bool.and_false, Bool.false_and, Bool.or_true, Bool.true_or, Bool.or_false, Bool.false_or, and_true, true_and, and_self, Nat.zero_add, Nat.add_zero, Int.toNat_zero, Nat.zero_mul, wp_pure, beq_self_eq_true, bne_self_eq_false, reduceCtorEq]
  refine run_draw.2 ⟨rfl, ?_⟩
  simp only [fe_nil, fe_cons, fe_guard, fego_some, feg_bool, feg_tt, feg_ff, feg_tf, feg_ft, feg_un, fev_ask, fev_ob, fev_pure, fev_fail, core1, cont_block_any, opg_un, u8, tyr, fgr, hkr, execOp, opd, opds, opt, ofValue, ofArr, ofList, ops2, putT, put, nth, forgetL, doCall, callV_func, builtin, one1, two2, some1, foldM2, min2, max2, blr, bCopy, intB, und, sizeOf, zeroOf, lenOf, bor, binInt, binOther, shiftB, shiftOp, intOp, wrapI, strOp, strK, intK, slK, aggK, unOp, doPick, branch, idx, readCells, cellsOf, oneOf, aggB, cel, alloc, doAlloc, newRow, nilCheck, extract, getO, ended, resultOf, oneOrTup, rowK, loopK, moved, fieldAddr, field, part, index, sameSz, equalTop, equal, nilFn, nilPtr, nilSl1, nilSl2, nilSl3, boolOf, List.getElem?_cons_succ, List.getElem?_cons_zero, List.append_eq, List.cons_append, List.nil_append, List.append_nil, List.length_cons, List.length_nil, Nat.reduceAdd, Nat.reduceSub, Nat.beq, Option.bind_some, nc0, nc1, Int.cast_ofNat_Int, int_beq, int_bne, str_beq, ↓reduceIte, Int.reduceEq, Int.reduceLT, Int.reduceLE, Int.reduceNe, Int.reduceAdd, Int.reduceSub, Int.reduceMul, Int.reduceNeg, Int.reduceGT, Int.reduceGE, ge_iff_le, gt_iff_lt, not_true_eq_false, not_false_eq_true, decide_not, decide_true, decide_false, Bool.not_true, Bool.not_false, Bool.and_true, Bool.true_and, Bool.and_false, Bool.false_and, Bool.or_true, Bool.true_or, Bool.or_false, Bool.false_or, and_true, true_and, and_self, Nat.zero_add, Nat.add_zero, Int.toNat_zero, Nat.zero_mul, wp_pure, beq_self_eq_true, bne_self_eq_false, reduceCtorEq]
  rw [fev_rd (hb.index_rd t23 s5 h00)]
  simp only [fe_nil, fe_cons, fe_guard, fego_some, feg_bool, feg_tt, feg_ff, feg_tf, feg_ft, feg_un, fev_ask, fev_ob, fev_pure, fev_fail, core1, cont_block_any, opg_un, u8, tyr, fgr, hkr, execOp, opd, opds, opt, ofValue, ofArr, ofList, ops2, putT, put, nth, forgetL, doCall, callV_func, builtin, one1, two2, some1, foldM2, min2, max2, blr, bCopy, intB, und, sizeOf, zeroOf, lenOf, bor, binInt, binOther, shiftB, shiftOp, intOp, wrapI, strOp, strK, intK, slK, aggK, unOp, doPick, branch, idx, readCells, cellsOf, oneOf, aggB, cel, alloc, doAlloc, newRow, nilCheck, extract, getO, ended, resultOf, oneOrTup, rowK, loopK, moved, fieldAddr, field, part, index, sameSz, equalTop, equal, nilFn, nilPtr, nilSl1, nilSl2, nilSl3, boolOf, List.getElem?_cons_succ, List.getElem?_cons_zero, List.append_eq, List.cons_append, List.nil_append, List.append_nil, List.length_cons, List.length_nil, Nat.reduceAdd, Nat.reduceSub, Nat.beq, Option.bind_some, nc0, nc1, Int.cast_ofNat_Int, int_beq, int_bne, str_beq, ↓reduceIte, Int.reduceEq, Int.reduceLT, Int.reduceLE, Int.reduceNe, Int.reduceAdd, Int.reduceSub, Int.reduceMul, Int.reduceNeg, Int.reduceGT, Int.reduceGE, ge_iff_le, gt_iff_lt, not_true_eq_false, not_false_eq_true, decide_not, decide_true, decide_false, Bool.not_true, Bool.not_false, Bool.and_true, Bool.true_and, Bool.and_false, Bool.false_and, Bool.or_true, Bool.true_or, Bool.or_false, Bool.false_or, and_true, true_and, and_self, Nat.zero_add, Nat.add_zero, Int.toNat_zero, Nat.zero_mul, wp_pure, beq_self_eq_true, bne_self_eq_false, reduceCtorEq]
  rw [fev_rd (hb.load_rd ti5 rfl hlt)]
  simp only [fe_nil, fe_cons, fe_guard, fego_some, feg_bool, feg_tt, feg_ff, feg_tf, feg_ft, feg_un, fev_ask, fev_ob, fev_pure, fev_fail, core1, cont_block_any, opg_un, u8, tyr, fgr, hkr, execOp, opd, opds, opt, ofValue, ofArr, ofList, ops2, putT, put, nth, forgetL, doCall, callV_func, builtin, one1, two2, some1, foldM2, min2, max2, blr, bCopy, intB, und, sizeOf, zeroOf, lenOf, bor, binInt, binOther, shiftB, shiftOp, intOp, wrapI, strOp, strK, intK, slK, aggK, unOp, doPick, branch, idx, readCells, cellsOf, oneOf, aggB, cel, alloc, doAlloc, newRow, nilCheck, extract, getO, ended, resultOf, oneOrTup, rowK, loopK, moved, fieldAddr, field, part, index, sameSz, equalTop, equal, nilFn, nilPtr, nilSl1, nilSl2, nilSl3, boolOf, List.getElem?_cons_succ, List.getElem?_cons_zero, List.append_eq, List.cons_append, List.nil_append, List.append_nil, List.length_cons, List.length_nil, Nat.reduceAdd, Nat.reduceSub, Nat.beq, Option.bind_some, nc0, nc1, Int.cast_ofNat_Int, int_beq, int_bne, str_beq, ↓reduceIte, Int.reduceEq, Int.reduceLT, Int.reduceLE, Int.reduceNe, Int.reduceAdd, Int.reduceSub, Int.reduceMul, Int.reduceNeg, Int.reduceGT, Int.reduceGE, ge_iff_le, gt_iff_lt, not_true_eq_false, not_false_eq_true, decide_not, decide_true, decide_false, Bool.not_true, Bool.not_false, Bool.and_true, Bool.true_and, Bool.and_false, Bool.false_and, Bool.or_true, Bool.true_or, Bool.or_false, Bool.false_or, and_true, true_and, and_self, Nat.zero_add, Nat.add_zero, Int.toNat_zero, Nat.zero_mul, wp_pure, beq_self_eq_true, bne_self_eq_false, reduceCtorEq]
  rw [fev_rd (hb.index_rd t23 s5 h00)]
  simp only [fe_nil, fe_cons, fe_guard, fego_some, feg_bool, feg_tt, feg_ff, feg_tf, feg_ft, feg_un, fev_ask, fev_ob, fev_pure, fev_fail, core1, cont_block_any, opg_un, u8, tyr, fgr, hkr, execOp, opd, opds, opt, ofValue, ofArr, ofList, ops2, putT, put, nth, forgetL, doCall, callV_func, builtin, one1, two2, some1, foldM2, min2, max2, blr, bCopy, intB, und, sizeOf, zeroOf, lenOf, bor, binInt, binOther, shiftB, shiftOp, intOp, wrapI, strOp, strK, intK, slK, aggK, unOp, doPick, branch, idx, readCells, cellsOf, oneOf, aggB, cel, alloc, doAlloc, newRow, nilCheck, extract, getO, ended, resultOf, oneOrTup, rowK, loopK, moved, fieldAddr, field, part, index, sameSz, equalTop, equal, nilFn, nilPtr, nilSl1, nilSl2, nilSl3, boolOf, List.getElem?_cons_succ, List.getElem?_cons_zero, List.append_eq, List.cons_append, List.nil_append, List.append_nil, List.length_cons, List.length_nil, Nat.reduceAdd, Nat.reduceSub, Nat.beq, Option.bind_some, nc0, nc1, Int.cast_ofNat_Int, int_beq, int_bne, str_beq, ↓reduceIte, Int.reduceEq, Int.reduceLT, Int.reduceLE, Int.reduceNe, Int.reduceAdd, Int.reduceSub, Int.reduceMul, Int.reduceNeg, Int.reduceGT, Int.reduceGE, ge_iff_le, gt_iff_lt, not_true_eq_false, not_false_eq_true, decide_not, decide_true, decide_false, Bool.not_true, Bool.not_false, Bool.and_true, Bool.true_and, Bool.and_false, Bool.false_and, Bool.or_true, Bool.true_or, Bool.or_false, Bool.false_or, and_true, true_and, and_self, Nat.zero_add, Nat.add_zero, Int.toNat_zero, Nat.zero_mul, wp_pure, beq_self_eq_true, bne_self_eq_false, reduceCtorEq]
  rw [fev_rd (hb.load_rd ti5 rfl hlt)]
  simp only [fe_nil, fe_cons, fe_guard, fego_some, feg_bool, feg_tt, feg_ff, feg_tf, feg_ft, feg_un, fev_ask, fev_ob, fev_pure, fev_fail, core1, cont_block_any, opg_un, u8, tyr, fgr, hkr, execOp, opd, opds, opt, ofValue, ofArr, ofList, ops2, putT, put, nth, forgetL, doCall, callV_func, builtin, one1, two2, some1, foldM2, min2, max2, blr, bCopy, intB, und, sizeOf, zeroOf, lenOf, bor, binInt, binOther, shiftB, shiftOp, intOp, wrapI, strOp, strK, intK, slK, aggK, unOp, doPick, branch, idx, readCells, cellsOf, oneOf, aggB, cel, alloc, doAlloc, newRow, nilCheck, extract, getO, ended, resultOf, oneOrTup, rowK, loopK, moved, fieldAddr, field, part, index, sameSz, equalTop, equal, nilFn, nilPtr, nilSl1, nilSl2, nilSl3, boolOf, List.getElem?_cons_succ, List.getElem?_cons_zero, List.append_eq, List.cons_append, List.nil_append, List.append_nil, List.length_cons, List.length_nil, Nat.reduceAdd, Nat.reduceSub, Nat.beq, Option.bind_some, nc0, nc1, Int.cast_ofNat_Int, int_beq, int_bne, str_beq, ↓reduceIte, Int.reduceEq, Int.reduceLT, Int.reduceLE, Int.reduceNe, Int.reduceAdd, Int.reduceSub, Int.reduceMul, Int.reduceNeg, Int.reduceGT, Int.reduceGE, ge_iff_le, gt_iff_lt, not_true_eq_false, not_false_eq_true, decide_not, decide_true, decide_false, Bool.not_true, Bool.not_false, Bool.and_true, Bool.true_and, Bool.and_false, Bool.false_and, Bool.or_true, Bool.true_or, Bool.or_false, Bool.false_or, and_true, true_and, and_self, Nat.zero_add, Nat.add_zero, Int.toNat_zero, Nat.zero_mul, wp_pure, beq_self_eq_true, bne_self_eq_false, reduceCtorEq, List.getElem_cons_zero]
  refine fev_free hf (f29 _ _ _) (f29 _ _ _) fun v0 h1 n1 hn1 hf1 ⟨e1, e2, e3⟩ => ?_
  subst e1; subst e2; subst e3
  simp only [fe_nil, fe_cons, fe_guard, fego_some, feg_bool, feg_tt, feg_ff, feg_tf, feg_ft, feg_un, fev_ask, fev_ob, fev_pure, fev_fail, core1, cont_block_any, opg_un, u8, tyr, fgr, hkr, execOp, opd, opds, opt, ofValue, ofArr, ofList, ops2, putT, put, nth, forgetL, doCall, callV_func, builtin, one1, two2, some1, foldM2, min2, max2, blr, bCopy, intB, und, sizeOf, zeroOf, lenOf, bor, binInt, binOther, shiftB, shiftOp, intOp, wrapI, strOp, strK, intK, slK, aggK, unOp, doPick, branch, idx, readCells, cellsOf, oneOf, aggB, cel, alloc, doAlloc, newRow, nilCheck, extract, getO, ended, resultOf, oneOrTup, rowK, loopK, moved, fieldAddr, field, part, index, sameSz, equalTop, equal, nilFn, nilPtr, nilSl1, nilSl2, nilSl3, boolOf, List.getElem?_cons_succ, List.getElem?_cons_zero, List.append_eq, List.cons_append, List.nil_append, List.append_nil, List.length_cons, List.length_nil, Nat.reduceAdd, Nat.reduceSub, Nat.beq, Option.bind_some, nc0, nc1, Int.cast_ofNat_Int, int_beq, int_bne, str_beq, ↓reduceIte, Int.reduceEq, Int.reduceLT, Int.reduceLE, Int.reduceNe, Int.reduceAdd, Int.reduceSub, Int.reduceMul, Int.reduceNeg, Int.reduceGT, Int.reduceGE, ge_iff_le, gt_iff_lt, not_true_eq_false, not_false_eq_true, decide_not, decide_true, decide_false, Bool.not_true, Bool.not_false, Bool.and_true, Bool.true_and, Bool.and_false, Bool.false_and, Bool.or_true, Bool.true_or, Bool.or_false, Bool.false_or, and_true, true_and, and_self, Nat.zero_add, Nat.add_zero, Int.toNat_zero, Nat.zero_mul, wp_pure, beq_self_eq_true, bne_self_eq_false, reduceCtorEq, head_sz]
  refine ⟨fine40 _ rfl _ _ _, ?_⟩
  have hlenI : (((c :: r).length : Nat) : Int) = (r.length : Int) + 1 := by simp
  have hsz : szV c ≤ 2 := by unfold szV; (repeat' split) <;> omega
  have hw1 : IntKind.i64.wrap (1 + ((szV c : Nat) : Int)) = 1 + ((szV c : Nat) : Int) := w64 (by omega) (by omega)
  have hlen := fun {ts} => hb.bLen (E := env) (t := 23) (ts := ts) t23
  rw [hlenI] at hlen
  by_cases g1 : szV c ≤ r.length
  · have fin_ : ∀ (z dd : Nat), z = szV c → dd = daV c r → okV c r = decide (z + dd ≤ r.length) ∧ decide ((r.length : Int) + 1 < 1 + (z : Int) + (dd : Int)) = !decide (z + dd ≤ r.length) := by
      intro z dd e0 e
      subst e0
      refine ⟨by unfold okV; rw [decide_eq_true g1, e]; rfl, ?_⟩
      by_cases g : szV c + dd ≤ r.length
      · rw [decide_eq_true g, decide_eq_false (by omega)]; rfl
      · rw [decide_eq_false g, decide_eq_true (by omega)]; rfl
    by_cases c77 : c.toNat = 77
    · have hs2 : szV c = 2 := by simp [szV, c77]
      rw [hs2] at g1
      match r, g1 with
      | a :: b :: r', _ =>
        have la := a.toNat_lt
        have lb := b.toNat_lt
        have hda : daV c (a :: b :: r') = a.toNat + b.toNat * 256 := by simp [daV, c77, Nat.mul_comm]
        have k2 := (fin_ 2 (a.toNat + b.toNat * 256) hs2.symm hda.symm).1
        have hcast : ((a.toNat + b.toNat * 256 : Nat) : Int) = (a.toNat : Int) + (b.toNat : Int) * 256 := by omega
        have k3 : decide (((r'.length + 1 + 1 : Nat) : Int) + 1 < 3 + ((a.toNat : Int) + (b.toNat : Int) * 256)) = !decide (2 + (a.toNat + b.toNat * 256) ≤ (a :: b :: r').length) := by
          by_cases g : 2 + (a.toNat + b.toNat * 256) ≤ r'.length + 1 + 1
          · rw [decide_eq_false (by omega), decide_eq_true (by simpa using g)]; rfl
          · rw [decide_eq_true (by omega), decide_eq_false (by simpa using g)]; rfl
        have hs := hb.sub (lo := 1) (hi := 3) (by decide) (by simp)
        simp only [List.take_succ_cons, List.take_zero, List.drop_succ_cons, List.drop_zero] at hs
        have hsl := hb.slice_rd (n := n1) hroom t23 s5 (k1 := .i64) (k2 := .i64) (lo := 1) (hi := 3) (by decide) (by decide) (by simp only [List.length_cons]; omega)
        have i1 : ¬ (((r'.length + 1 + 1 : Nat) : Int) + 1 < 3) := by omega
        cases hk : decide (2 + (a.toNat + b.toNat * 256) ≤ (a :: b :: r').length) <;> rw [hk] at k2 k3 <;>
        simp (maxSteps := 10000000) (disch := omega) only [core1, cont_block_any, opg_un, u8, tyr, fgr, hkr, execOp, opd, opds, opt, ofValue, ofArr, ofList, ops2, putT, put, nth, forgetL, doCall, callV_func, builtin, one1, two2, some1, foldM2, min2, max2, blr, bCopy, intB, und, sizeOf, zeroOf, lenOf, bor, binInt, binOther, shiftB, shiftOp, intOp, wrapI, strOp, strK, intK, slK, aggK, unOp, doPick, branch, idx, readCells, cellsOf, oneOf, aggB, cel, alloc, doAlloc, newRow, nilCheck, extract, getO, ended, resultOf, oneOrTup, rowK, loopK, moved, fieldAddr, field, part, index, sameSz, equalTop, equal, nilFn, nilPtr, nilSl1, nilSl2, nilSl3, boolOf, List.getElem?_cons_succ, List.getElem?_cons_zero, List.append_eq, List.cons_append, List.nil_append, List.append_nil, List.length_cons, List.length_nil, Nat.reduceAdd, Nat.reduceSub, Nat.beq, Option.bind_some, nc0, nc1, Int.cast_ofNat_Int, int_beq, int_bne, str_beq, ↓reduceIte, Int.reduceEq, Int.reduceLT, Int.reduceLE, Int.reduceNe, Int.reduceAdd, Int.reduceSub, Int.reduceMul, Int.reduceNeg, Int.reduceGT, Int.reduceGE, ge_iff_le, gt_iff_lt, not_true_eq_false, not_false_eq_true, decide_not, decide_true, decide_false, Bool.not_true, Bool.not_false, Bool.and_true, Bool.true_and, Bool.and_false, Bool.false_and, Bool.or_true, Bool.true_or, Bool.or_false, Bool.false_or, and_true, true_and, and_self, Nat.zero_add, Nat.add_zero, Int.toNat_zero, Nat.zero_mul, wp_pure, beq_self_eq_true, bne_self_eq_false, reduceCtorEq, convert, convStr, isU8, run_loop, Int.reduceToNat, hlen, hs2, or0, or8, pw0, pw8, w64, Int.zero_mul, Int.mul_one, i1, opv_rd hsl, hs.bLen t23, hs.index t23 s5, hs.load (j := 0) ti5 rfl (by simp), hs.load (j := 1) ti5 rfl (by simp), List.getElem_cons_zero, List.getElem_cons_succ, k3, longV, k2, hda, hcast]
    · by_cases c76 : c.toNat = 76
      · have hs2 : szV c = 1 := by simp [szV, c76]
        rw [hs2] at g1
        match r, g1 with
        | a :: r', _ =>
          have la := a.toNat_lt
          have hda : daV c (a :: r') = a.toNat := by simp [daV, c76]
          have k2 := (fin_ 1 a.toNat hs2.symm hda.symm).1
          have k3 : decide (((r'.length + 1 : Nat) : Int) + 1 < 2 + (a.toNat : Int)) = !decide (1 + a.toNat ≤ (a :: r').length) := by
            by_cases g : 1 + a.toNat ≤ r'.length + 1
            · rw [decide_eq_false (by omega), decide_eq_true (by simpa using g)]; rfl
            · rw [decide_eq_true (by omega), decide_eq_false (by simpa using g)]; rfl
          have hs := hb.sub (lo := 1) (hi := 2) (by decide) (by simp)
          simp only [List.take_succ_cons, List.take_zero, List.drop_succ_cons, List.drop_zero] at hs
          have hsl := hb.slice_rd (n := n1) hroom t23 s5 (k1 := .i64) (k2 := .i64) (lo := 1) (hi := 2) (by decide) (by decide) (by simp only [List.length_cons]; omega)
          have i1 : ¬ (((r'.length + 1 : Nat) : Int) + 1 < 2) := by omega
          cases hk : decide (1 + a.toNat ≤ (a :: r').length) <;> rw [hk] at k2 k3 <;>
          simp (maxSteps := 10000000) (disch := omega) only [core1, cont_block_any, opg_un, u8, tyr, fgr, hkr, execOp, opd, opds, opt, ofValue, ofArr, ofList, ops2, putT, put, nth, forgetL, doCall, callV_func, builtin, one1, two2, some1, foldM2, min2, max2, blr, bCopy, intB, und, sizeOf, zeroOf, lenOf, bor, binInt, binOther, shiftB, shiftOp, intOp, wrapI, strOp, strK, intK, slK, aggK, unOp, doPick, branch, idx, readCells, cellsOf, oneOf, aggB, cel, alloc, doAlloc, newRow, nilCheck, extract, getO, ended, resultOf, oneOrTup, rowK, loopK, moved, fieldAddr, field, part, index, sameSz, equalTop, equal, nilFn, nilPtr, nilSl1, nilSl2, nilSl3, boolOf, List.getElem?_cons_succ, List.getElem?_cons_zero, List.append_eq, List.cons_append, List.nil_append, List.append_nil, List.length_cons, List.length_nil, Nat.reduceAdd, Nat.reduceSub, Nat.beq, Option.bind_some, nc0, nc1, Int.cast_ofNat_Int, int_beq, int_bne, str_beq, ↓reduceIte, Int.reduceEq, Int.reduceLT, Int.reduceLE, Int.reduceNe, Int.reduceAdd, Int.reduceSub, Int.reduceMul, Int.reduceNeg, Int.reduceGT, Int.reduceGE, ge_iff_le, gt_iff_lt, not_true_eq_false, not_false_eq_true, decide_not, decide_true, decide_false, Bool.not_true, Bool.not_false, Bool.and_true, Bool.true_and, Bool.and_false, Bool.false_and, Bool.or_true, Bool.true_or, Bool.or_false, Bool.false_or, and_true, true_and, and_self, Nat.zero_add, Nat.add_zero, Int.toNat_zero, Nat.zero_mul, wp_pure, beq_self_eq_true, bne_self_eq_false, reduceCtorEq, convert, convStr, isU8, run_loop, Int.reduceToNat, hlen, hs2, or0, or8, pw0, pw8, w64, Int.zero_mul, Int.mul_one, i1, opv_rd hsl, hs.bLen t23, hs.index t23 s5, hs.load (j := 0) ti5 rfl (by simp), List.getElem_cons_zero, List.getElem_cons_succ, k3, longV, k2, hda]
      · have hs2 : szV c = 0 := by simp [szV, c77, c76]
        have i1 : ¬ (r.length : Int) + 1 < 1 := by omega
        by_cases c75 : c.toNat ≤ 75
        · have hda : daV c r = c.toNat := by simp [daV, c77, c76, c75]
          have i3 : ((c.toNat : Nat) : Int) ≤ 75 := by omega
          obtain ⟨k2, k3⟩ := fin_ 0 c.toNat hs2.symm hda.symm
          simp only [nc0, Int.add_zero] at k3
          cases hk : decide (0 + c.toNat ≤ r.length) <;> rw [hk] at k2 k3 <;>
          simp (disch := omega) only [core1, cont_block_any, opg_un, u8, tyr, fgr, hkr, execOp, opd, opds, opt, ofValue, ofArr, ofList, ops2, putT, put, nth, forgetL, doCall, callV_func, builtin, one1, two2, some1, foldM2, min2, max2, blr, bCopy, intB, und, sizeOf, zeroOf, lenOf, bor, binInt, binOther, shiftB, shiftOp, intOp, wrapI, strOp, strK, intK, slK, aggK, unOp, doPick, branch, idx, readCells, cellsOf, oneOf, aggB, cel, alloc, doAlloc, newRow, nilCheck, extract, getO, ended, resultOf, oneOrTup, rowK, loopK, moved, fieldAddr, field, part, index, sameSz, equalTop, equal, nilFn, nilPtr, nilSl1, nilSl2, nilSl3, boolOf, List.getElem?_cons_succ, List.getElem?_cons_zero, List.append_eq, List.cons_append, List.nil_append, List.append_nil, List.length_cons, List.length_nil, Nat.reduceAdd, Nat.reduceSub, Nat.beq, Option.bind_some, nc0, nc1, Int.cast_ofNat_Int, int_beq, int_bne, str_beq, ↓reduceIte, Int.reduceEq, Int.reduceLT, Int.reduceLE, Int.reduceNe, Int.reduceAdd, Int.reduceSub, Int.reduceMul, Int.reduceNeg, Int.reduceGT, Int.reduceGE, ge_iff_le, gt_iff_lt, not_true_eq_false, not_false_eq_true, decide_not, decide_true, decide_false, Bool.not_true, Bool.not_false, Bool.and_true, Bool.true_and, Bool.and_false, Bool.false_and, Bool.or_true, Bool.true_or, Bool.or_false, Bool.false_or, and_true, true_and, and_self, Nat.zero_add, Nat.add_zero, Int.toNat_zero, Nat.zero_mul, wp_pure, beq_self_eq_true, bne_self_eq_false, reduceCtorEq, convert, convStr, isU8, hlen, hs2, i1, i3, w64, k3, longV, k2, hda]
        · have hda : daV c r = 0 := by simp [daV, c77, c76, c75]
          have i3 : ¬ ((c.toNat : Nat) : Int) ≤ 75 := by omega
          obtain ⟨k2, k3⟩ := fin_ 0 0 hs2.symm hda.symm
          simp only [Nat.add_zero, Nat.zero_le, decide_true] at k2
          simp (disch := omega) only [core1, cont_block_any, opg_un, u8, tyr, fgr, hkr, execOp, opd, opds, opt, ofValue, ofArr, ofList, ops2, putT, put, nth, forgetL, doCall, callV_func, builtin, one1, two2, some1, foldM2, min2, max2, blr, bCopy, intB, und, sizeOf, zeroOf, lenOf, bor, binInt, binOther, shiftB, shiftOp, intOp, wrapI, strOp, strK, intK, slK, aggK, unOp, doPick, branch, idx, readCells, cellsOf, oneOf, aggB, cel, alloc, doAlloc, newRow, nilCheck, extract, getO, ended, resultOf, oneOrTup, rowK, loopK, moved, fieldAddr, field, part, index, sameSz, equalTop, equal, nilFn, nilPtr, nilSl1, nilSl2, nilSl3, boolOf, List.getElem?_cons_succ, List.getElem?_cons_zero, List.append_eq, List.cons_append, List.nil_append, List.append_nil, List.length_cons, List.length_nil, Nat.reduceAdd, Nat.reduceSub, Nat.beq, Option.bind_some, nc0, nc1, Int.cast_ofNat_Int, int_beq, int_bne, str_beq, ↓reduceIte, Int.reduceEq, Int.reduceLT, Int.reduceLE, Int.reduceNe, Int.reduceAdd, Int.reduceSub, Int.reduceMul, Int.reduceNeg, Int.reduceGT, Int.reduceGE, ge_iff_le, gt_iff_lt, not_true_eq_false, not_false_eq_true, decide_not, decide_true, decide_false, Bool.not_true, Bool.not_false, Bool.and_true, Bool.true_and, Bool.and_false, Bool.false_and, Bool.or_true, Bool.true_or, Bool.or_false, Bool.false_or, and_true, true_and, and_self, Nat.zero_add, Nat.add_zero, Int.toNat_zero, Nat.zero_mul, wp_pure, beq_self_eq_true, bne_self_eq_false, reduceCtorEq, convert, convStr, isU8, hlen, hs2, i1, i3, w64, longV, k2, hda]
  · have i1 : (r.length : Int) + 1 < 1 + ((szV c : Nat) : Int) := by omega
    have hk : okV c r = false := by unfold okV; rw [decide_eq_false g1]; rfl
    simp only [core1, cont_block_any, opg_un, u8, tyr, fgr, hkr, execOp, opd, opds, opt, ofValue, ofArr, ofList, ops2, putT, put, nth, forgetL, doCall, callV_func, builtin, one1, two2, some1, foldM2, min2, max2, blr, bCopy, intB, und, sizeOf, zeroOf, lenOf, bor, binInt, binOther, shiftB, shiftOp, intOp, wrapI, strOp, strK, intK, slK, aggK, unOp, doPick, branch, idx, readCells, cellsOf, oneOf, aggB, cel, alloc, doAlloc, newRow, nilCheck, extract, getO, ended, resultOf, oneOrTup, rowK, loopK, moved, fieldAddr, field, part, index, sameSz, equalTop, equal, nilFn, nilPtr, nilSl1, nilSl2, nilSl3, boolOf, List.getElem?_cons_succ, List.getElem?_cons_zero, List.append_eq, List.cons_append, List.nil_append, List.append_nil, List.length_cons, List.length_nil, Nat.reduceAdd, Nat.reduceSub, Nat.beq, Option.bind_some, nc0, nc1, Int.cast_ofNat_Int, int_beq, int_bne, str_beq, ↓reduceIte, Int.reduceEq, Int.reduceLT, Int.reduceLE, Int.reduceNe, Int.reduceAdd, Int.reduceSub, Int.reduceMul, Int.reduceNeg, Int.reduceGT, Int.reduceGE, ge_iff_le, gt_iff_lt, not_true_eq_false, not_false_eq_true, decide_not, decide_true, decide_false, Bool.not_true, Bool.not_false, Bool.and_true, Bool.true_and, Bool.and_false, Bool.false_and, Bool.or_true, Bool.true_or, Bool.or_false, Bool.false_or, and_true, true_and, and_self, Nat.zero_add, Nat.add_zero, Int.toNat_zero, Nat.zero_mul, wp_pure, beq_self_eq_true, bne_self_eq_false, reduceCtorEq, hlen, hw1, i1, longV, hk]
/- A script's operations: the program's. -/
abbrev OpD := UInt8 × List UInt8
/-- Memory that is no argument's, with room. -/
def RoomyM : AVal → Prop
  | .isl _ _ _ _ => False
  | v => Roomy v
/-- Cells of operations, beside blocks that are others'. -/
inductive OpC (h : Hp) (n : Nat) (X : Nat → Prop) : List AVal → List OpD → Prop
  | nil : OpC h n X [] []
  | cons (c : UInt8) (d : AVal) (l : List UInt8) (cs : List AVal) (os : List OpD) (hd : Bytes h d l) (hb : Below0 n d) (hr : RoomyM d) (hne : ∀ j, ownId d = some j → ¬ X j) (t : OpC h n X cs os) : OpC h n X (u8 c :: d :: cs) ((c, l) :: os)
theorem OpC.keep {h h' : Hp} {n n' : Nat} {X X' : Nat → Prop} {cs : List AVal} {os : List OpD} (ho : OpC h n X cs os) (hn : n ≤ n') (hk : ∀ j, j < n → ¬ X j → h' j = h j) (hx : ∀ j, j < n → X' j → X j) : OpC h' n' X' cs os := by
  induction ho with
  | nil => exact .nil
  | cons c d l cs os hd hb hr hne t ih =>
    exact .cons c d l cs os (hd.keep fun j hj => hk j (below_own hb hj) (hne j hj)) (hb.mono hn) hr (fun j hj e => hne j hj (hx j (below_own hb hj) e)) ih
theorem OpC.snoc {h : Hp} {n : Nat} {X : Nat → Prop} {cs : List AVal} {os : List OpD} (ho : OpC h n X cs os) (c : UInt8) (d : AVal) (l : List UInt8) (hd : Bytes h d l) (hb : Below0 n d) (hr : RoomyM d) (hne : ∀ j, ownId d = some j → ¬ X j) :
    OpC h n X (cs ++ [u8 c, d]) (os ++ [(c, l)]) := by
  induction ho with
  | nil => exact .cons c d l [] [] hd hb hr hne .nil
  | cons c' d' l' cs os hd' hb' hr' hne' t ih => exact .cons c' d' l' _ _ hd' hb' hr' hne' ih
theorem own_roomy {h : Hp} {n e sz cnt : Nat} {v : AVal} {xs : List AVal} (ho : Own h n e sz v cnt xs) : RoomyM v := by
  cases ho with
  | nil => trivial
  | sl id cnt xs hid hh hl => trivial
  | full id cnt xs e' hid hh hl => exact Nat.le_refl _
/-- A slice of operations, beside blocks that are others'. -/
def OpsV (h : Hp) (n : Nat) (X : Nat → Prop) (v : AVal) (os : List OpD) : Prop := ∃ cs, Own h n 32 2 v os.length cs ∧ OpC h n (fun j => ownId v = some j ∨ X j) cs os ∧ ∀ j, ownId v = some j → ¬ X j
theorem OpsV.keep {h h' : Hp} {n n' : Nat} {X : Nat → Prop} {v : AVal} {os : List OpD} (hv : OpsV h n X v os) (hn : n ≤ n') (hk : ∀ j, j < n → ¬ X j → h' j = h j) : OpsV h' n' X v os := by
  obtain ⟨cs, a, b, c⟩ := hv
  exact ⟨cs, a.keep hn fun j hj => hk j (a.id_lt hj) (c j hj), b.keep hn (fun j hj hx => hk j hj fun x => hx (.inr x)) (fun j _ hx => hx), c⟩
/-- A script's operations, and whether nothing is left. -/
def splitV (l : List UInt8) : List OpD × Bool :=
  match l with
  | [] => ([], true)
  | c :: r => match okV c r with
    | false => ([], false)
    | true => ((c, (r.drop (szV c)).take (daV c r)) :: (splitV (r.drop (szV c + daV c r))).1, (splitV (r.drop (szV c + daV c r))).2)
termination_by l.length
decreasing_by all_goals simp only [List.length_drop, List.length_cons]; omega
theorem split_nil : splitV [] = ([], true) := by rw [splitV]
theorem split_no {c : UInt8} {r : List UInt8} (h : okV c r = false) : splitV (c :: r) = ([], false) := by rw [splitV, h]
theorem split_yes {c : UInt8} {r : List UInt8} (h : okV c r = true) : splitV (c :: r) = ((c, (r.drop (szV c)).take (daV c r)) :: (splitV (r.drop (szV c + daV c r))).1, (splitV (r.drop (szV c + daV c r))).2) := by rw [splitV, h]
noncomputable def L21 (tm : List AVal) : ALoop := { state := .ready, pending := none, fn := 21, tmps := tm, params := [10, 11], assign := ra21_0, body := rb21_0 }
set_option maxHeartbeats 1000000 in
theorem loop39 (Q : Post0) (ks : List Kf) (N c4 c5 b id : Nat) (x0 x2 x3 x6 x7 x9 x10 x11 x13 x19 : AVal) (hd : c4 ≠ c5 ∧ c4 ≠ b ∧ c4 ≠ id ∧ c5 ≠ b ∧ c5 ≠ id ∧ b ≠ id) (hN : N ≤ c4 ∧ N ≤ c5 ∧ N ≤ b ∧ N ≤ id) :
    ∀ (k : Nat) (l : List UInt8) (os : List OpD) (out s : AVal) (h : Hp) (n : Nat) (z2 z3 z4 z5 z6 z7 z8 z9 z10 z11 z12 z13 z14 z15 z16 z17 z18 z19 z20 z21 z22 z23 z24 z25 z26 z27 z28 z29 z30 z31 z32 z33 z34 z35 z36 z37 z38 z39 z40 z41 : AVal),
    l.length ≤ k → l.length ≤ 100000000 → os.length + k ≤ 100000000 → c4 < n ∧ c5 < n ∧ b < n ∧ id < n → Free h n →
    h c4 = some (.row (.l [out]) 22) → h c5 = some (.row (.l [.int .i64 0]) 25) → h b = some (.row (.l [s]) 23) → h id = some (.loop (L21 (x0 :: AVal.junk :: x2 :: x3 :: .ptr c4 0 :: .ptr c5 0 :: x6 :: x7 :: AVal.junk :: x9 :: x10 :: x11 :: AVal.junk :: x13 :: AVal.junk :: AVal.junk :: AVal.junk :: AVal.junk :: AVal.junk :: x19 :: AVal.junk :: AVal.junk :: []))) →
    Bytes h s l → Below0 n s → Roomy s → (∀ j, ownId s = some j → j ≠ c4 ∧ j ≠ c5 ∧ j ≠ b ∧ j ≠ id ∧ ownId out ≠ some j) →
    OpsV h n (fun j => j = c4 ∨ j = c5 ∨ j = b ∨ j = id ∨ j < N) out os → (∀ j, ownId out = some j → N ≤ j) →
    (∀ out' h' n' e tm' L, (e = .exit 0 ∧ (splitV l).2 = true ∧ L.state = .ready ∧ L.pending = none ∧ h' c5 = some (.row (.l [.int .i64 0]) 25) ∨ e = .ret ∧ (splitV l).2 = false ∧ L.state = .done ∧ L.pending = some (.exit 0) ∧ h' c5 = some (.row (.l [.int .i64 100]) 25)) →
      h' id = some (.loop L) → h' c4 = some (.row (.l [out']) 22) → c4 < n' ∧ c5 < n' ∧ b < n' ∧ id < n' → OpsV h' n' (fun j => j = c4 ∨ j = c5 ∨ j = b ∨ j = id ∨ j < N) out' (os ++ (splitV l).1) → (∀ j, ownId out' = some j → N ≤ j) → Free h' n' → Old h h' N → Kont env 39 none Q ks e tm' h' n') →
    Run env 39 none Q (.loop lp39_0) ks (.fn (.yield id) [] [] :: .ptr b 0 :: z2 :: z3 :: z4 :: z5 :: z6 :: z7 :: z8 :: z9 :: z10 :: z11 :: z12 :: z13 :: z14 :: z15 :: z16 :: z17 :: z18 :: z19 :: z20 :: z21 :: z22 :: z23 :: z24 :: z25 :: z26 :: z27 :: z28 :: z29 :: z30 :: z31 :: z32 :: z33 :: z34 :: z35 :: z36 :: z37 :: z38 :: z39 :: z40 :: z41 :: []) h n := by
  intro k
  induction k with
  | zero =>
    intro l os out s h n z2 z3 z4 z5 z6 z7 z8 z9 z10 z11 z12 z13 z14 z15 z16 z17 z18 z19 z20 z21 z22 z23 z24 z25 z26 z27 z28 z29 z30 z31 z32 z33 z34 z35 z36 z37 z38 z39 z40 z41 hk hl hbd hn hf h4 h5 hb hi hs hsb hsr hsx hv hvN hq
    have : l = [] := by cases l with | nil => rfl | cons a l => simp at hk
    subst this
    rw [run_loop]
    simp only [lp39_0, loopsOf, Try.f39, Option.getD_some, core1, cont_block_any, opg_un, u8, tyr, fgr, hkr, execOp, opd, opds, opt, ofValue, ofArr, ofList, ops2, putT, put, nth, forgetL, doCall, callV_func, builtin, one1, two2, some1, foldM2, min2, max2, blr, bCopy, intB, und, sizeOf, zeroOf, lenOf, bor, binInt, binOther, shiftB, shiftOp, intOp, wrapI, strOp, strK, intK, slK, aggK, unOp, doPick, branch, idx, readCells, cellsOf, oneOf, aggB, cel, alloc, doAlloc, newRow, nilCheck, extract, getO, ended, resultOf, oneOrTup, rowK, loopK, moved, fieldAddr, field, part, index, sameSz, equalTop, equal, nilFn, nilPtr, nilSl1, nilSl2, nilSl3, boolOf, List.getElem?_cons_succ, List.getElem?_cons_zero, List.append_eq, List.cons_append, List.nil_append, List.append_nil, List.length_cons, List.length_nil, Nat.reduceAdd, Nat.reduceSub, Nat.beq, Option.bind_some, nc0, nc1, Int.cast_ofNat_Int, int_beq, int_bne, str_beq, ↓reduceIte, Int.reduceEq, Int.reduceLT, Int.reduceLE, Int.reduceNe, Int.reduceAdd, Int.reduceSub, Int.reduceMul, Int.reduceNeg, Int.reduceGT, Int.reduceGE, ge_iff_le, gt_iff_lt, not_true_eq_false, not_false_eq_true, decide_not, decide_true, decide_false, Bool.not_true, Bool.not_false, Bool.and_true, Bool.true_and, Bool.and_false, Bool.false_and, Bool.or_true, Bool.true_or, Bool.or_false, Bool.false_or, and_true, true_and, and_self, Nat.zero_add, Nat.add_zero, Int.toNat_zero, Nat.zero_mul, wp_pure, beq_self_eq_true, bne_self_eq_false, reduceCtorEq, memr, buildSlice, build, reps, fill, sizesOf, List.take_succ_cons, List.take_zero, List.drop_succ_cons, List.drop_zero, Nat.reduceMul, Nat.ble, Nat.reduceLeDiff, Nat.mul_one, Nat.one_mul, writeCells, setAll, Cont.size, Cont.set, Cont.at, Cont.sub, upd_same, upd_ne, List.all_cons, List.all_nil, Option.some.injEq, exists_eq_left', Int.reduceToNat, ne_eq, and_true, true_and, List.length_cons, List.length_nil, Nat.mul_zero, Nat.zero_mul, List.getD_cons_zero, List.getD_cons_succ, hb, hs.bLen t23]
    exact hq out h n _ _ _ (.inl ⟨rfl, by rw [split_nil], rfl, rfl, h5⟩) hi h4 hn (by rw [split_nil, List.append_nil]; exact hv) hvN hf (Old.refl _ _)
  | succ k ih =>
    intro l os out s h n z2 z3 z4 z5 z6 z7 z8 z9 z10 z11 z12 z13 z14 z15 z16 z17 z18 z19 z20 z21 z22 z23 z24 z25 z26 z27 z28 z29 z30 z31 z32 z33 z34 z35 z36 z37 z38 z39 z40 z41 hk hl hbd hn hf h4 h5 hb hi hs hsb hsr hsx hv hvN hq
    rw [run_loop]
    match l, hs, hk, hl, hq with
    | [], hs, hk, hl, hq =>
      simp only [lp39_0, loopsOf, Try.f39, Option.getD_some, core1, cont_block_any, opg_un, u8, tyr, fgr, hkr, execOp, opd, opds, opt, ofValue, ofArr, ofList, ops2, putT, put, nth, forgetL, doCall, callV_func, builtin, one1, two2, some1, foldM2, min2, max2, blr, bCopy, intB, und, sizeOf, zeroOf, lenOf, bor, binInt, binOther, shiftB, shiftOp, intOp, wrapI, strOp, strK, intK, slK, aggK, unOp, doPick, branch, idx, readCells, cellsOf, oneOf, aggB, cel, alloc, doAlloc, newRow, nilCheck, extract, getO, ended, resultOf, oneOrTup, rowK, loopK, moved, fieldAddr, field, part, index, sameSz, equalTop, equal, nilFn, nilPtr, nilSl1, nilSl2, nilSl3, boolOf, List.getElem?_cons_succ, List.getElem?_cons_zero, List.append_eq, List.cons_append, List.nil_append, List.append_nil, List.length_cons, List.length_nil, Nat.reduceAdd, Nat.reduceSub, Nat.beq, Option.bind_some, nc0, nc1, Int.cast_ofNat_Int, int_beq, int_bne, str_beq, ↓reduceIte, Int.reduceEq, Int.reduceLT, Int.reduceLE, Int.reduceNe, Int.reduceAdd, Int.reduceSub, Int.reduceMul, Int.reduceNeg, Int.reduceGT, Int.reduceGE, ge_iff_le, gt_iff_lt, not_true_eq_false, not_false_eq_true, decide_not, decide_true, decide_false, Bool.not_true, Bool.not_false, Bool.and_true, Bool.true_and, Bool.and_false, Bool.false_and, Bool.or_true, Bool.true_or, Bool.or_false, Bool.false_or, and_true, true_and, and_self, Nat.zero_add, Nat.add_zero, Int.toNat_zero, Nat.zero_mul, wp_pure, beq_self_eq_true, bne_self_eq_false, reduceCtorEq, memr, buildSlice, build, reps, fill, sizesOf, List.take_succ_cons, List.take_zero, List.drop_succ_cons, List.drop_zero, Nat.reduceMul, Nat.ble, Nat.reduceLeDiff, Nat.mul_one, Nat.one_mul, writeCells, setAll, Cont.size, Cont.set, Cont.at, Cont.sub, upd_same, upd_ne, List.all_cons, List.all_nil, Option.some.injEq, exists_eq_left', Int.reduceToNat, ne_eq, and_true, true_and, List.length_cons, List.length_nil, Nat.mul_zero, Nat.zero_mul, List.getD_cons_zero, List.getD_cons_succ, hb, hs.bLen t23]
      exact hq out h n _ _ _ (.inl ⟨rfl, by rw [split_nil], rfl, rfl, h5⟩) hi h4 hn (by rw [split_nil, List.append_nil]; exact hv) hvN hf (Old.refl _ _)
    | c :: r, hs, hk, hl, hq =>
      simp only [List.length_cons] at hk hl
      have hpos : (0 : Int) < ((r.length + 1 : Nat) : Int) := by omega
      cases hok : okV c r with
      | false =>
        simp only [lp39_0, loopsOf, Try.f39, Option.getD_some, core1, cont_block_any, opg_un, u8, tyr, fgr, hkr, execOp, opd, opds, opt, ofValue, ofArr, ofList, ops2, putT, put, nth, forgetL, doCall, callV_func, builtin, one1, two2, some1, foldM2, min2, max2, blr, bCopy, intB, und, sizeOf, zeroOf, lenOf, bor, binInt, binOther, shiftB, shiftOp, intOp, wrapI, strOp, strK, intK, slK, aggK, unOp, doPick, branch, idx, readCells, cellsOf, oneOf, aggB, cel, alloc, doAlloc, newRow, nilCheck, extract, getO, ended, resultOf, oneOrTup, rowK, loopK, moved, fieldAddr, field, part, index, sameSz, equalTop, equal, nilFn, nilPtr, nilSl1, nilSl2, nilSl3, boolOf, List.getElem?_cons_succ, List.getElem?_cons_zero, List.append_eq, List.cons_append, List.nil_append, List.append_nil, List.length_cons, List.length_nil, Nat.reduceAdd, Nat.reduceSub, Nat.beq, Option.bind_some, nc0, nc1, Int.cast_ofNat_Int, int_beq, int_bne, str_beq, ↓reduceIte, Int.reduceEq, Int.reduceLT, Int.reduceLE, Int.reduceNe, Int.reduceAdd, Int.reduceSub, Int.reduceMul, Int.reduceNeg, Int.reduceGT, Int.reduceGE, ge_iff_le, gt_iff_lt, not_true_eq_false, not_false_eq_true, decide_not, decide_true, decide_false, Bool.not_true, Bool.not_false, Bool.and_true, Bool.true_and, Bool.and_false, Bool.false_and, Bool.or_true, Bool.true_or, Bool.or_false, Bool.false_or, and_true, true_and, and_self, Nat.zero_add, Nat.add_zero, Int.toNat_zero, Nat.zero_mul, wp_pure, beq_self_eq_true, bne_self_eq_false, reduceCtorEq, memr, buildSlice, build, reps, fill, sizesOf, List.take_succ_cons, List.take_zero, List.drop_succ_cons, List.drop_zero, Nat.reduceMul, Nat.ble, Nat.reduceLeDiff, Nat.mul_one, Nat.one_mul, writeCells, setAll, Cont.size, Cont.set, Cont.at, Cont.sub, upd_same, upd_ne, List.all_cons, List.all_nil, Option.some.injEq, exists_eq_left', Int.reduceToNat, ne_eq, and_true, true_and, List.length_cons, List.length_nil, Nat.mul_zero, Nat.zero_mul, List.getD_cons_zero, List.getD_cons_succ, hb, hs.bLen t23, hpos, opv_det (f40 s c r h n hs hsr hf (by omega)), longV, hok]
        refine opv_yield (l := L21 (x0 :: AVal.junk :: x2 :: x3 :: .ptr c4 0 :: .ptr c5 0 :: x6 :: x7 :: AVal.junk :: x9 :: x10 :: x11 :: AVal.junk :: x13 :: AVal.junk :: AVal.junk :: AVal.junk :: AVal.junk :: AVal.junk :: x19 :: AVal.junk :: AVal.junk :: [])) hi rfl rfl ?_
        simp (disch := omega) only [ra21_0, List.getD_cons_zero, List.getD_cons_succ, putAll, List.zip_cons_cons, List.zip_nil_left, L21, rangesOf, Try.f21, Option.getD_some, core1, cont_block_any, opg_un, u8, tyr, fgr, hkr, execOp, opd, opds, opt, ofValue, ofArr, ofList, ops2, putT, put, nth, forgetL, doCall, callV_func, builtin, one1, two2, some1, foldM2, min2, max2, blr, bCopy, intB, und, sizeOf, zeroOf, lenOf, bor, binInt, binOther, shiftB, shiftOp, intOp, wrapI, strOp, strK, intK, slK, aggK, unOp, doPick, branch, idx, readCells, cellsOf, oneOf, aggB, cel, alloc, doAlloc, newRow, nilCheck, extract, getO, ended, resultOf, oneOrTup, rowK, loopK, moved, fieldAddr, field, part, index, sameSz, equalTop, equal, nilFn, nilPtr, nilSl1, nilSl2, nilSl3, boolOf, List.getElem?_cons_succ, List.getElem?_cons_zero, List.append_eq, List.cons_append, List.nil_append, List.append_nil, List.length_cons, List.length_nil, Nat.reduceAdd, Nat.reduceSub, Nat.beq, Option.bind_some, nc0, nc1, Int.cast_ofNat_Int, int_beq, int_bne, str_beq, ↓reduceIte, Int.reduceEq, Int.reduceLT, Int.reduceLE, Int.reduceNe, Int.reduceAdd, Int.reduceSub, Int.reduceMul, Int.reduceNeg, Int.reduceGT, Int.reduceGE, ge_iff_le, gt_iff_lt, not_true_eq_false, not_false_eq_true, decide_not, decide_true, decide_false, Bool.not_true, Bool.not_false, Bool.and_true, Bool.true_and, Bool.and_false, Bool.false_and, Bool.or_true, Bool.true_or, Bool.or_false, Bool.false_or, and_true, true_and, and_self, Nat.zero_add, Nat.add_zero, Int.toNat_zero, Nat.zero_mul, wp_pure, beq_self_eq_true, bne_self_eq_false, reduceCtorEq, memr, buildSlice, build, reps, fill, sizesOf, List.take_succ_cons, List.take_zero, List.drop_succ_cons, List.drop_zero, Nat.reduceMul, Nat.ble, Nat.reduceLeDiff, Nat.mul_one, Nat.one_mul, writeCells, setAll, Cont.size, Cont.set, Cont.at, Cont.sub, upd_same, upd_ne, List.all_cons, List.all_nil, Option.some.injEq, exists_eq_left', Int.reduceToNat, ne_eq, and_true, true_and, List.length_cons, List.length_nil, Nat.mul_zero, Nat.zero_mul]
        refine ⟨_, hi, rfl, ?_⟩
        simp (disch := omega) only [rb21_0, List.getD_cons_zero, List.getD_cons_succ, putAll, List.zip_cons_cons, List.zip_nil_left, L21, rangesOf, Try.f21, Option.getD_some, core1, cont_block_any, opg_un, u8, tyr, fgr, hkr, execOp, opd, opds, opt, ofValue, ofArr, ofList, ops2, putT, put, nth, forgetL, doCall, callV_func, builtin, one1, two2, some1, foldM2, min2, max2, blr, bCopy, intB, und, sizeOf, zeroOf, lenOf, bor, binInt, binOther, shiftB, shiftOp, intOp, wrapI, strOp, strK, intK, slK, aggK, unOp, doPick, branch, idx, readCells, cellsOf, oneOf, aggB, cel, alloc, doAlloc, newRow, nilCheck, extract, getO, ended, resultOf, oneOrTup, rowK, loopK, moved, fieldAddr, field, part, index, sameSz, equalTop, equal, nilFn, nilPtr, nilSl1, nilSl2, nilSl3, boolOf, List.getElem?_cons_succ, List.getElem?_cons_zero, List.append_eq, List.cons_append, List.nil_append, List.append_nil, List.length_cons, List.length_nil, Nat.reduceAdd, Nat.reduceSub, Nat.beq, Option.bind_some, nc0, nc1, Int.cast_ofNat_Int, int_beq, int_bne, str_beq, ↓reduceIte, Int.reduceEq, Int.reduceLT, Int.reduceLE, Int.reduceNe, Int.reduceAdd, Int.reduceSub, Int.reduceMul, Int.reduceNeg, Int.reduceGT, Int.reduceGE, ge_iff_le, gt_iff_lt, not_true_eq_false, not_false_eq_true, decide_not, decide_true, decide_false, Bool.not_true, Bool.not_false, Bool.and_true, Bool.true_and, Bool.and_false, Bool.false_and, Bool.or_true, Bool.true_or, Bool.or_false, Bool.false_or, and_true, true_and, and_self, Nat.zero_add, Nat.add_zero, Int.toNat_zero, Nat.zero_mul, wp_pure, beq_self_eq_true, bne_self_eq_false, reduceCtorEq, memr, buildSlice, build, reps, fill, sizesOf, List.take_succ_cons, List.take_zero, List.drop_succ_cons, List.drop_zero, Nat.reduceMul, Nat.ble, Nat.reduceLeDiff, Nat.mul_one, Nat.one_mul, writeCells, setAll, Cont.size, Cont.set, Cont.at, Cont.sub, upd_same, upd_ne, List.all_cons, List.all_nil, Option.some.injEq, exists_eq_left', Int.reduceToNat, ne_eq, and_true, true_and, List.length_cons, List.length_nil, Nat.mul_zero, Nat.zero_mul, h5, Blk.loop.injEq, normB, jumpOf]
        refine hq out _ (n + 1) .ret _ _ (.inr ⟨rfl, by rw [split_no hok], rfl, rfl, ?_⟩) (upd_same _ _ _) ?_ (by omega) ?_ hvN ?_ ?_
        · rw [upd_ne _ _ (by omega)]; exact upd_same _ _ _
        · simp (disch := omega) only [upd_ne]; exact h4
        · rw [split_no hok, List.append_nil]
          refine hv.keep (by omega) fun j hj hx => ?_
          simp only [not_or] at hx
          rw [upd_ne _ _ (by omega), upd_ne _ _ (by omega), upd_ne _ _ (by omega), upd_ne _ _ (by omega), upd_ne _ _ (by omega)]
        · intro j hj
          rw [upd_ne _ _ (by omega), upd_ne _ _ (by omega), upd_ne _ _ (by omega), upd_ne _ _ (by omega), upd_ne _ _ (by omega)]
          exact hf j (by omega)
        · intro j hj
          rw [upd_ne _ _ (by omega), upd_ne _ _ (by omega), upd_ne _ _ (by omega), upd_ne _ _ (by omega), upd_ne _ _ (by omega)]
      | true =>
        have hokk : szV c ≤ r.length ∧ szV c + daV c r ≤ r.length := by
          have := hok; unfold okV at this; simpa using this
        have hsz2 : szV c ≤ 2 := by unfold szV; (repeat' split) <;> omega
        have h00 : (0 : Int) ≤ 0 ∧ (0 : Int) < ((r.length + 1 : Nat) : Int) := ⟨Int.le_refl 0, by omega⟩
        have hneg : ¬ ((daV c r : Nat) : Int) < 0 := by omega
        have hlt0 : 0 < (c :: r).length := by simp
        by_cases hda : daV c r = 0
        · have hda2 : ((daV c r : Nat) : Int) = 0 := by omega
          simp (disch := omega) only [lp39_0, loopsOf, Try.f39, Option.getD_some, core1, cont_block_any, opg_un, u8, tyr, fgr, hkr, execOp, opd, opds, opt, ofValue, ofArr, ofList, ops2, putT, put, nth, forgetL, doCall, callV_func, builtin, one1, two2, some1, foldM2, min2, max2, blr, bCopy, intB, und, sizeOf, zeroOf, lenOf, bor, binInt, binOther, shiftB, shiftOp, intOp, wrapI, strOp, strK, intK, slK, aggK, unOp, doPick, branch, idx, readCells, cellsOf, oneOf, aggB, cel, alloc, doAlloc, newRow, nilCheck, extract, getO, ended, resultOf, oneOrTup, rowK, loopK, moved, fieldAddr, field, part, index, sameSz, equalTop, equal, nilFn, nilPtr, nilSl1, nilSl2, nilSl3, boolOf, List.getElem?_cons_succ, List.getElem?_cons_zero, List.append_eq, List.cons_append, List.nil_append, List.append_nil, List.length_cons, List.length_nil, Nat.reduceAdd, Nat.reduceSub, Nat.beq, Option.bind_some, nc0, nc1, Int.cast_ofNat_Int, int_beq, int_bne, str_beq, ↓reduceIte, Int.reduceEq, Int.reduceLT, Int.reduceLE, Int.reduceNe, Int.reduceAdd, Int.reduceSub, Int.reduceMul, Int.reduceNeg, Int.reduceGT, Int.reduceGE, ge_iff_le, gt_iff_lt, not_true_eq_false, not_false_eq_true, decide_not, decide_true, decide_false, Bool.not_true, Bool.not_false, Bool.and_true, Bool.true_and, Bool.and_false, Bool.false_and, Bool.or_true, Bool.true_or, Bool.or_false, Bool.false_or, and_true, true_and, and_self, Nat.zero_add, Nat.add_zero, Int.toNat_zero, Nat.zero_mul, wp_pure, beq_self_eq_true, bne_self_eq_false, reduceCtorEq, memr, buildSlice, build, reps, fill, sizesOf, List.take_succ_cons, List.take_zero, List.drop_succ_cons, List.drop_zero, Nat.reduceMul, Nat.ble, Nat.reduceLeDiff, Nat.mul_one, Nat.one_mul, writeCells, setAll, Cont.size, Cont.set, Cont.at, Cont.sub, upd_same, upd_ne, List.all_cons, List.all_nil, Option.some.injEq, exists_eq_left', Int.reduceToNat, ne_eq, and_true, true_and, List.length_cons, List.length_nil, Nat.mul_zero, Nat.zero_mul, List.getD_cons_zero, List.getD_cons_succ, hb, hs.bLen t23, hpos, opv_det (f40 s c r h n hs hsr hf (by omega)), longV, hok, hda2, hs.index t23 s5, h00, List.length_cons, hs.load (j := 0) ti5 rfl hlt0, List.getElem_cons_zero]
          obtain ⟨cs, hown, hopc, hnx⟩ := hv
          refine opv_yield (l := L21 (x0 :: AVal.junk :: x2 :: x3 :: .ptr c4 0 :: .ptr c5 0 :: x6 :: x7 :: AVal.junk :: x9 :: x10 :: x11 :: AVal.junk :: x13 :: AVal.junk :: AVal.junk :: AVal.junk :: AVal.junk :: AVal.junk :: x19 :: AVal.junk :: AVal.junk :: [])) (by simp (disch := omega) only [upd_ne]; exact hi) rfl rfl ?_
          simp (disch := omega) only [ra21_0, List.getD_cons_zero, List.getD_cons_succ, putAll, List.zip_cons_cons, List.zip_nil_left, L21, rangesOf, Try.f21, Option.getD_some, core1, cont_block_any, opg_un, u8, tyr, fgr, hkr, execOp, opd, opds, opt, ofValue, ofArr, ofList, ops2, putT, put, nth, forgetL, doCall, callV_func, builtin, one1, two2, some1, foldM2, min2, max2, blr, bCopy, intB, und, sizeOf, zeroOf, lenOf, bor, binInt, binOther, shiftB, shiftOp, intOp, wrapI, strOp, strK, intK, slK, aggK, unOp, doPick, branch, idx, readCells, cellsOf, oneOf, aggB, cel, alloc, doAlloc, newRow, nilCheck, extract, getO, ended, resultOf, oneOrTup, rowK, loopK, moved, fieldAddr, field, part, index, sameSz, equalTop, equal, nilFn, nilPtr, nilSl1, nilSl2, nilSl3, boolOf, List.getElem?_cons_succ, List.getElem?_cons_zero, List.append_eq, List.cons_append, List.nil_append, List.append_nil, List.length_cons, List.length_nil, Nat.reduceAdd, Nat.reduceSub, Nat.beq, Option.bind_some, nc0, nc1, Int.cast_ofNat_Int, int_beq, int_bne, str_beq, ↓reduceIte, Int.reduceEq, Int.reduceLT, Int.reduceLE, Int.reduceNe, Int.reduceAdd, Int.reduceSub, Int.reduceMul, Int.reduceNeg, Int.reduceGT, Int.reduceGE, ge_iff_le, gt_iff_lt, not_true_eq_false, not_false_eq_true, decide_not, decide_true, decide_false, Bool.not_true, Bool.not_false, Bool.and_true, Bool.true_and, Bool.and_false, Bool.false_and, Bool.or_true, Bool.true_or, Bool.or_false, Bool.false_or, and_true, true_and, and_self, Nat.zero_add, Nat.add_zero, Int.toNat_zero, Nat.zero_mul, wp_pure, beq_self_eq_true, bne_self_eq_false, reduceCtorEq, memr, buildSlice, build, reps, fill, sizesOf, List.take_succ_cons, List.take_zero, List.drop_succ_cons, List.drop_zero, Nat.reduceMul, Nat.ble, Nat.reduceLeDiff, Nat.mul_one, Nat.one_mul, writeCells, setAll, Cont.size, Cont.set, Cont.at, Cont.sub, upd_same, upd_ne, List.all_cons, List.all_nil, Option.some.injEq, exists_eq_left', Int.reduceToNat, ne_eq, and_true, true_and, List.length_cons, List.length_nil, Nat.mul_zero, Nat.zero_mul]
          refine ⟨_, hi, rfl, ?_⟩
          simp (disch := omega) only [rb21_0, List.getD_cons_zero, List.getD_cons_succ, putAll, List.zip_cons_cons, List.zip_nil_left, L21, rangesOf, Try.f21, Option.getD_some, core1, cont_block_any, opg_un, u8, tyr, fgr, hkr, execOp, opd, opds, opt, ofValue, ofArr, ofList, ops2, putT, put, nth, forgetL, doCall, callV_func, builtin, one1, two2, some1, foldM2, min2, max2, blr, bCopy, intB, und, sizeOf, zeroOf, lenOf, bor, binInt, binOther, shiftB, shiftOp, intOp, wrapI, strOp, strK, intK, slK, aggK, unOp, doPick, branch, idx, readCells, cellsOf, oneOf, aggB, cel, alloc, doAlloc, newRow, nilCheck, extract, getO, ended, resultOf, oneOrTup, rowK, loopK, moved, fieldAddr, field, part, index, sameSz, equalTop, equal, nilFn, nilPtr, nilSl1, nilSl2, nilSl3, boolOf, List.getElem?_cons_succ, List.getElem?_cons_zero, List.append_eq, List.cons_append, List.nil_append, List.append_nil, List.length_cons, List.length_nil, Nat.reduceAdd, Nat.reduceSub, Nat.beq, Option.bind_some, nc0, nc1, Int.cast_ofNat_Int, int_beq, int_bne, str_beq, ↓reduceIte, Int.reduceEq, Int.reduceLT, Int.reduceLE, Int.reduceNe, Int.reduceAdd, Int.reduceSub, Int.reduceMul, Int.reduceNeg, Int.reduceGT, Int.reduceGE, ge_iff_le, gt_iff_lt, not_true_eq_false, not_false_eq_true, decide_not, decide_true, decide_false, Bool.not_true, Bool.not_false, Bool.and_true, Bool.true_and, Bool.and_false, Bool.false_and, Bool.or_true, Bool.true_or, Bool.or_false, Bool.false_or, and_true, true_and, and_self, Nat.zero_add, Nat.add_zero, Int.toNat_zero, Nat.zero_mul, wp_pure, beq_self_eq_true, bne_self_eq_false, reduceCtorEq, memr, buildSlice, build, reps, fill, sizesOf, List.take_succ_cons, List.take_zero, List.drop_succ_cons, List.drop_zero, Nat.reduceMul, Nat.ble, Nat.reduceLeDiff, Nat.mul_one, Nat.one_mul, writeCells, setAll, Cont.size, Cont.set, Cont.at, Cont.sub, upd_same, upd_ne, List.all_cons, List.all_nil, Option.some.injEq, exists_eq_left', Int.reduceToNat, ne_eq, and_true, true_and, List.length_cons, List.length_nil, Nat.mul_zero, Nat.zero_mul, h4]
          have jn : ∀ j, ownId out = some j → j < n ∧ j ≠ c4 ∧ j ≠ c5 ∧ j ≠ b ∧ j ≠ id := fun j hj => by
            have h1 := hown.id_lt hj
            have h2 := hnx j hj
            omega
          refine own_append (i := ty32.i) (e := 32) (e2 := 32) (xs := cs) (ys := [u8 c, .nils]) (cnt := os.length) (hown.keep (by omega) fun j hj => by have := jn j hj; simp (disch := omega) only [upd_ne]) rfl rfl (show ti env 32 = M.pure ty32.i from rfl) (upd_same _ _ _) rfl (by decide) (by decide) rfl
            (fun e => by have := jn _ e; omega) (by show 2 * (os.length + 1) * 32 ≤ _; omega) (by omega) ?_
          intro v1 H1 ho1 hid1 hold1
          have gB : ∀ j, j < n → j ≠ id → ownId out ≠ some j → H1 j = h j := fun j q1 q2 q3 => by rw [hold1 j (by omega) q3]; simp (disch := omega) only [upd_ne]
          have g4 : H1 c4 = some (.row (.l [out]) 22) := by rw [gB c4 (by omega) (by omega) (fun e => by have := jn _ e; omega)]; exact h4
          have gb : H1 b = some (.row (.l [s]) 23) := by rw [gB b (by omega) (by omega) (fun e => by have := jn _ e; omega)]; exact hb
          have gi := hold1 id (by omega) (fun e => by have := jn _ e; omega)
          rw [upd_ne _ _ (by omega), upd_same] at gi
          simp (disch := omega) only [core1, cont_block_any, opg_un, u8, tyr, fgr, hkr, execOp, opd, opds, opt, ofValue, ofArr, ofList, ops2, putT, put, nth, forgetL, doCall, callV_func, builtin, one1, two2, some1, foldM2, min2, max2, blr, bCopy, intB, und, sizeOf, zeroOf, lenOf, bor, binInt, binOther, shiftB, shiftOp, intOp, wrapI, strOp, strK, intK, slK, aggK, unOp, doPick, branch, idx, readCells, cellsOf, oneOf, aggB, cel, alloc, doAlloc, newRow, nilCheck, extract, getO, ended, resultOf, oneOrTup, rowK, loopK, moved, fieldAddr, field, part, index, sameSz, equalTop, equal, nilFn, nilPtr, nilSl1, nilSl2, nilSl3, boolOf, List.getElem?_cons_succ, List.getElem?_cons_zero, List.append_eq, List.cons_append, List.nil_append, List.append_nil, List.length_cons, List.length_nil, Nat.reduceAdd, Nat.reduceSub, Nat.beq, Option.bind_some, nc0, nc1, Int.cast_ofNat_Int, int_beq, int_bne, str_beq, ↓reduceIte, Int.reduceEq, Int.reduceLT, Int.reduceLE, Int.reduceNe, Int.reduceAdd, Int.reduceSub, Int.reduceMul, Int.reduceNeg, Int.reduceGT, Int.reduceGE, ge_iff_le, gt_iff_lt, not_true_eq_false, not_false_eq_true, decide_not, decide_true, decide_false, Bool.not_true, Bool.not_false, Bool.and_true, Bool.true_and, Bool.and_false, Bool.false_and, Bool.or_true, Bool.true_or, Bool.or_false, Bool.false_or, and_true, true_and, and_self, Nat.zero_add, Nat.add_zero, Int.toNat_zero, Nat.zero_mul, wp_pure, beq_self_eq_true, bne_self_eq_false, reduceCtorEq, memr, buildSlice, build, reps, fill, sizesOf, List.take_succ_cons, List.take_zero, List.drop_succ_cons, List.drop_zero, Nat.reduceMul, Nat.ble, Nat.reduceLeDiff, Nat.mul_one, Nat.one_mul, writeCells, setAll, Cont.size, Cont.set, Cont.at, Cont.sub, upd_same, upd_ne, List.all_cons, List.all_nil, Option.some.injEq, exists_eq_left', Int.reduceToNat, ne_eq, and_true, true_and, List.length_cons, List.length_nil, Nat.mul_zero, Nat.zero_mul, g4, gb, gi, ho1.kind, Blk.loop.injEq, normB, jumpOf, w64, Int.add_zero]
          have hsN : ∀ j, ownId s = some j → j < n := fun j hj => below_own hsb hj
          have hs1 : ∀ bb, Bytes (upd (upd H1 c4 (some (Blk.row (Cont.l [v1]) 22))) id bb) s (c :: r) := fun bb => hs.keep fun j hj => by
            have q := hsx j hj
            have q2 := hsN j hj
            rw [upd_ne _ _ (by omega), upd_ne _ _ (by omega)]
            exact gB j q2 (by omega) q.2.2.2.2
          rw [opv_rd ((hs1 _).tail_rd t23 s5 (by omega) (by simp only [List.length_cons]; omega))]
          simp (disch := omega) only [core1, cont_block_any, opg_un, u8, tyr, fgr, hkr, execOp, opd, opds, opt, ofValue, ofArr, ofList, ops2, putT, put, nth, forgetL, doCall, callV_func, builtin, one1, two2, some1, foldM2, min2, max2, blr, bCopy, intB, und, sizeOf, zeroOf, lenOf, bor, binInt, binOther, shiftB, shiftOp, intOp, wrapI, strOp, strK, intK, slK, aggK, unOp, doPick, branch, idx, readCells, cellsOf, oneOf, aggB, cel, alloc, doAlloc, newRow, nilCheck, extract, getO, ended, resultOf, oneOrTup, rowK, loopK, moved, fieldAddr, field, part, index, sameSz, equalTop, equal, nilFn, nilPtr, nilSl1, nilSl2, nilSl3, boolOf, List.getElem?_cons_succ, List.getElem?_cons_zero, List.append_eq, List.cons_append, List.nil_append, List.append_nil, List.length_cons, List.length_nil, Nat.reduceAdd, Nat.reduceSub, Nat.beq, Option.bind_some, nc0, nc1, Int.cast_ofNat_Int, int_beq, int_bne, str_beq, ↓reduceIte, Int.reduceEq, Int.reduceLT, Int.reduceLE, Int.reduceNe, Int.reduceAdd, Int.reduceSub, Int.reduceMul, Int.reduceNeg, Int.reduceGT, Int.reduceGE, ge_iff_le, gt_iff_lt, not_true_eq_false, not_false_eq_true, decide_not, decide_true, decide_false, Bool.not_true, Bool.not_false, Bool.and_true, Bool.true_and, Bool.and_false, Bool.false_and, Bool.or_true, Bool.true_or, Bool.or_false, Bool.false_or, and_true, true_and, and_self, Nat.zero_add, Nat.add_zero, Int.toNat_zero, Nat.zero_mul, wp_pure, beq_self_eq_true, bne_self_eq_false, reduceCtorEq, memr, buildSlice, build, reps, fill, sizesOf, List.take_succ_cons, List.take_zero, List.drop_succ_cons, List.drop_zero, Nat.reduceMul, Nat.ble, Nat.reduceLeDiff, Nat.mul_one, Nat.one_mul, writeCells, setAll, Cont.size, Cont.set, Cont.at, Cont.sub, upd_same, upd_ne, List.all_cons, List.all_nil, Option.some.injEq, exists_eq_left', Int.reduceToNat, ne_eq, and_true, true_and, List.length_cons, List.length_nil, Nat.mul_zero, Nat.zero_mul, Int.toNat_natCast, gb, (hsb.sub _ _ |> fun (_ : Below0 n (subOf (1 + szV c) (r.length + 1) s)) => (hs.sub (lo := 1 + szV c) (hi := r.length + 1) (by omega) (by simp)).kind)]
          have hrest : splitV (c :: r) = ((c, []) :: (splitV (r.drop (szV c + daV c r))).1, (splitV (r.drop (szV c + daV c r))).2) := by rw [split_yes hok, hda]; simp
          have hk1 := ho1.kind
          have gN : ∀ j, j < n → j ≠ id → j ≠ c4 → j ≠ b → ownId out ≠ some j → (upd (upd (upd H1 c4 (some (Blk.row (Cont.l [v1]) 22))) id (some (.loop (L21 (x0 :: AVal.junk :: x2 :: x3 :: .ptr c4 0 :: .ptr c5 0 :: x6 :: x7 :: AVal.junk :: x9 :: x10 :: x11 :: AVal.junk :: x13 :: AVal.junk :: AVal.junk :: AVal.junk :: AVal.junk :: AVal.junk :: x19 :: AVal.junk :: AVal.junk :: []))))) b (some (Blk.row (Cont.l [subOf (1 + szV c) (r.length + 1) s]) 23))) j = h j := fun j q1 q2 q3 q4 q5 => by
            rw [upd_ne _ _ q4, upd_ne _ _ q2, upd_ne _ _ q3]; exact gB j q1 q2 q5
          have hsubl : ((c :: r).take (r.length + 1)).drop (1 + szV c) = r.drop (szV c + daV c r) := by rw [hda, Nat.add_zero, List.take_of_length_le (by simp)]; rw [Nat.add_comm]; rfl
          refine ih (r.drop (szV c + daV c r)) (os ++ [(c, [])]) v1 (subOf (1 + szV c) (r.length + 1) s) _ (n + 1 + 1 + 1 + 1) _ _ _ _ _ _ _ _ _ _ _ _ _ _ _ _ _ _ _ _ _ _ _ _ _ _ _ _ _ _ _ _ _ _ _ _ _ _ _ _ (by rw [List.length_drop]; omega) (by rw [List.length_drop]; omega) (by rw [List.length_append]; simp only [List.length_singleton]; omega) (by omega) ?_ ?_ ?_ (upd_same _ _ _) ?_ ?_ ((hsb.sub _ _).mono (by omega)) (hsr.sub hs (by omega) (by simp)) ?_ ?_ ?_ ?_
          · intro j hj
            rw [upd_ne _ _ (by omega), upd_ne _ _ (by omega), upd_ne _ _ (by omega), hold1 j (by omega) (fun e => by have := jn j e; omega)]
            simp (disch := omega) only [upd_ne]
            exact hf j (by omega)
          · rw [upd_ne _ _ (by omega), upd_ne _ _ (by omega)]; exact upd_same _ _ _
          · exact (gN c5 (by omega) (by omega) (by omega) (by omega) (fun e => by have := jn _ e; omega)).trans h5
          · rw [upd_ne _ _ (by omega)]; exact upd_same _ _ _
          · have := (hs.keep (h' := upd (upd (upd H1 c4 (some (Blk.row (Cont.l [v1]) 22))) id (some (.loop (L21 (x0 :: AVal.junk :: x2 :: x3 :: .ptr c4 0 :: .ptr c5 0 :: x6 :: x7 :: AVal.junk :: x9 :: x10 :: x11 :: AVal.junk :: x13 :: AVal.junk :: AVal.junk :: AVal.junk :: AVal.junk :: AVal.junk :: x19 :: AVal.junk :: AVal.junk :: []))))) b (some (Blk.row (Cont.l [subOf (1 + szV c) (r.length + 1) s]) 23))) fun j hj => by
              have q := hsx j hj
              have q2 := hsN j hj
              exact gN j q2 (by omega) (by omega) (by omega) q.2.2.2.2).sub (lo := 1 + szV c) (hi := r.length + 1) (by omega) (by simp)
            rw [hsubl] at this
            exact this
          · intro j hj
            rw [sub_id] at hj
            have q := hsx j hj
            have q2 := hsN j hj
            exact ⟨q.1, q.2.1, q.2.2.1, q.2.2.2.1, fun e => by rw [hid1] at e; injection e with e; omega⟩
          · refine ⟨cs ++ [u8 c, .nils], ?_, ?_, ?_⟩
            · have : Own H1 (n + 1 + 1 + 1 + 1) 32 2 v1 (os.length + 1) (cs ++ [u8 c, .nils]) := ho1
              rw [List.length_append]
              exact this.keep (Nat.le_refl _) fun j hj => by rw [hid1] at hj; injection hj with hj; rw [upd_ne _ _ (by omega), upd_ne _ _ (by omega), upd_ne _ _ (by omega)]
            · refine OpC.snoc (hopc.keep (by omega) (fun j q1 q2 => ?_) (fun j q1 q2 => ?_)) c .nils [] .nils trivial trivial (fun j hj => by cases hj)
              · simp only [not_or] at q2
                obtain ⟨p1, p2⟩ := q2
                exact gN j q1 (by omega) (by omega) (by omega) p1
              · rcases q2 with e | e
                · rw [hid1] at e; injection e with e; omega
                · exact .inr e
            · intro j hj; rw [hid1] at hj; injection hj with hj; omega
          · intro j hj; rw [hid1] at hj; injection hj with hj; omega
          · intro out2 h2 n2 e2 tm2 L2 q1 q2 q3 q4 q5 q6 q7 q8
            refine hq out2 h2 n2 e2 tm2 L2 (by rw [hrest]; exact q1) q2 q3 q4 (by rw [hrest]; simpa using q5) q6 q7 (fun j hj => ?_)
            rw [q8 j hj]
            exact gN j (by omega) (by omega) (by omega) (by omega) (fun e => by have := hvN j e; omega)
        · have hdp : (0 : Int) < ((daV c r : Nat) : Int) := by omega
          have hdneg : ¬ ((daV c r : Nat) : Int) < 0 := by omega
          have hwd : IntKind.i64.wrap (((1 + szV c : Nat) : Int) + ((daV c r : Nat) : Int)) = ((1 + szV c + daV c r : Nat) : Int) := by rw [w64 (by omega) (by omega)]; omega
          simp (disch := omega) only [lp39_0, loopsOf, Try.f39, Option.getD_some, core1, cont_block_any, opg_un, u8, tyr, fgr, hkr, execOp, opd, opds, opt, ofValue, ofArr, ofList, ops2, putT, put, nth, forgetL, doCall, callV_func, builtin, one1, two2, some1, foldM2, min2, max2, blr, bCopy, intB, und, sizeOf, zeroOf, lenOf, bor, binInt, binOther, shiftB, shiftOp, intOp, wrapI, strOp, strK, intK, slK, aggK, unOp, doPick, branch, idx, readCells, cellsOf, oneOf, aggB, cel, alloc, doAlloc, newRow, nilCheck, extract, getO, ended, resultOf, oneOrTup, rowK, loopK, moved, fieldAddr, field, part, index, sameSz, equalTop, equal, nilFn, nilPtr, nilSl1, nilSl2, nilSl3, boolOf, List.getElem?_cons_succ, List.getElem?_cons_zero, List.append_eq, List.cons_append, List.nil_append, List.append_nil, List.length_cons, List.length_nil, Nat.reduceAdd, Nat.reduceSub, Nat.beq, Option.bind_some, nc0, nc1, Int.cast_ofNat_Int, int_beq, int_bne, str_beq, ↓reduceIte, Int.reduceEq, Int.reduceLT, Int.reduceLE, Int.reduceNe, Int.reduceAdd, Int.reduceSub, Int.reduceMul, Int.reduceNeg, Int.reduceGT, Int.reduceGE, ge_iff_le, gt_iff_lt, not_true_eq_false, not_false_eq_true, decide_not, decide_true, decide_false, Bool.not_true, Bool.not_false, Bool.and_true, Bool.true_and, Bool.and_false, Bool.false_and, Bool.or_true, Bool.true_or, Bool.or_false, Bool.false_or, and_true, true_and, and_self, Nat.zero_add, Nat.add_zero, Int.toNat_zero, Nat.zero_mul, wp_pure, beq_self_eq_true, bne_self_eq_false, reduceCtorEq, memr, buildSlice, build, reps, fill, sizesOf, List.take_succ_cons, List.take_zero, List.drop_succ_cons, List.drop_zero, Nat.reduceMul, Nat.ble, Nat.reduceLeDiff, Nat.mul_one, Nat.one_mul, writeCells, setAll, Cont.size, Cont.set, Cont.at, Cont.sub, upd_same, upd_ne, List.all_cons, List.all_nil, Option.some.injEq, exists_eq_left', Int.reduceToNat, ne_eq, and_true, true_and, List.length_cons, List.length_nil, Nat.mul_zero, Nat.zero_mul, List.getD_cons_zero, List.getD_cons_succ, hb, hs.bLen t23, hpos, opv_det (f40 s c r h n hs hsr hf (by omega)), longV, hok, hdp, hdneg, hs.index t23 s5, h00, List.length_cons, hs.load (j := 0) ti5 rfl hlt0, List.getElem_cons_zero, hwd]
          have hsN : ∀ j, ownId s = some j → j < n := fun j hj => below_own hsb hj
          have hs0 : Bytes (upd (upd h n (some (Blk.row (Cont.l [AVal.int IntKind.u8 0, AVal.nils]) 32))) n (some (Blk.row (Cont.l [AVal.int IntKind.u8 (c.toNat : Int), AVal.nils]) 32))) s (c :: r) := hs.keep fun j hj => by
            have := hsN j hj; simp (disch := omega) only [upd_ne]
          rw [opv_rd (hs0.slice_rd hsr t23 s5 (by omega) (by omega) (by simp only [List.length_cons]; omega))]
          have hdat := hs0.sub (lo := 1 + szV c) (hi := 1 + szV c + daV c r) (by omega) (by simp only [List.length_cons]; omega)
          have hdl : ((c :: r).take (1 + szV c + daV c r)).drop (1 + szV c) = (r.drop (szV c)).take (daV c r) := by
            rw [show 1 + szV c + daV c r = (szV c + daV c r) + 1 by omega, show 1 + szV c = szV c + 1 by omega, List.take_succ_cons, List.drop_succ_cons, List.drop_take, Nat.add_sub_cancel_left]
          rw [hdl] at hdat
          have hf0 : Free (upd (upd h n (some (Blk.row (Cont.l [AVal.int IntKind.u8 0, AVal.nils]) 32))) n (some (Blk.row (Cont.l [AVal.int IntKind.u8 (c.toNat : Int), AVal.nils]) 32))) (n + 1) := hf.new.upd (by omega)
          simp (disch := omega) only [core1, cont_block_any, opg_un, u8, tyr, fgr, hkr, execOp, opd, opds, opt, ofValue, ofArr, ofList, ops2, putT, put, nth, forgetL, doCall, callV_func, builtin, one1, two2, some1, foldM2, min2, max2, blr, bCopy, intB, und, sizeOf, zeroOf, lenOf, bor, binInt, binOther, shiftB, shiftOp, intOp, wrapI, strOp, strK, intK, slK, aggK, unOp, doPick, branch, idx, readCells, cellsOf, oneOf, aggB, cel, alloc, doAlloc, newRow, nilCheck, extract, getO, ended, resultOf, oneOrTup, rowK, loopK, moved, fieldAddr, field, part, index, sameSz, equalTop, equal, nilFn, nilPtr, nilSl1, nilSl2, nilSl3, boolOf, List.getElem?_cons_succ, List.getElem?_cons_zero, List.append_eq, List.cons_append, List.nil_append, List.append_nil, List.length_cons, List.length_nil, Nat.reduceAdd, Nat.reduceSub, Nat.beq, Option.bind_some, nc0, nc1, Int.cast_ofNat_Int, int_beq, int_bne, str_beq, ↓reduceIte, Int.reduceEq, Int.reduceLT, Int.reduceLE, Int.reduceNe, Int.reduceAdd, Int.reduceSub, Int.reduceMul, Int.reduceNeg, Int.reduceGT, Int.reduceGE, ge_iff_le, gt_iff_lt, not_true_eq_false, not_false_eq_true, decide_not, decide_true, decide_false, Bool.not_true, Bool.not_false, Bool.and_true, Bool.true_and, Bool.and_false, Bool.false_and, Bool.or_true, Bool.true_or, Bool.or_false, Bool.false_or, and_true, true_and, and_self, Nat.zero_add, Nat.add_zero, Int.toNat_zero, Nat.zero_mul, wp_pure, beq_self_eq_true, bne_self_eq_false, reduceCtorEq, memr, buildSlice, build, reps, fill, sizesOf, List.take_succ_cons, List.take_zero, List.drop_succ_cons, List.drop_zero, Nat.reduceMul, Nat.ble, Nat.reduceLeDiff, Nat.mul_one, Nat.one_mul, writeCells, setAll, Cont.size, Cont.set, Cont.at, Cont.sub, upd_same, upd_ne, List.all_cons, List.all_nil, Option.some.injEq, exists_eq_left', Int.reduceToNat, ne_eq, and_true, true_and, List.length_cons, List.length_nil, Nat.mul_zero, Nat.zero_mul, Int.toNat_natCast]
          refine opv_callf hf0 (f35 _ _ _ _ hdat ((hsb.sub _ _).mono (by omega)) (by rw [List.length_take, List.length_drop]; omega)) fun d1 h5' n5 hn5 hf5' hnew => ?_
          obtain ⟨e5, cnt5, own5, ids5, old5⟩ := hnew
          have k5 : h5' n = some (.row (.l [.int .u8 (c.toNat : Int), .nils]) 32) := by rw [old5 n (by omega)]; exact upd_same _ _ _
          simp (disch := omega) only [core1, cont_block_any, opg_un, u8, tyr, fgr, hkr, execOp, opd, opds, opt, ofValue, ofArr, ofList, ops2, putT, put, nth, forgetL, doCall, callV_func, builtin, one1, two2, some1, foldM2, min2, max2, blr, bCopy, intB, und, sizeOf, zeroOf, lenOf, bor, binInt, binOther, shiftB, shiftOp, intOp, wrapI, strOp, strK, intK, slK, aggK, unOp, doPick, branch, idx, readCells, cellsOf, oneOf, aggB, cel, alloc, doAlloc, newRow, nilCheck, extract, getO, ended, resultOf, oneOrTup, rowK, loopK, moved, fieldAddr, field, part, index, sameSz, equalTop, equal, nilFn, nilPtr, nilSl1, nilSl2, nilSl3, boolOf, List.getElem?_cons_succ, List.getElem?_cons_zero, List.append_eq, List.cons_append, List.nil_append, List.append_nil, List.length_cons, List.length_nil, Nat.reduceAdd, Nat.reduceSub, Nat.beq, Option.bind_some, nc0, nc1, Int.cast_ofNat_Int, int_beq, int_bne, str_beq, ↓reduceIte, Int.reduceEq, Int.reduceLT, Int.reduceLE, Int.reduceNe, Int.reduceAdd, Int.reduceSub, Int.reduceMul, Int.reduceNeg, Int.reduceGT, Int.reduceGE, ge_iff_le, gt_iff_lt, not_true_eq_false, not_false_eq_true, decide_not, decide_true, decide_false, Bool.not_true, Bool.not_false, Bool.and_true, Bool.true_and, Bool.and_false, Bool.false_and, Bool.or_true, Bool.true_or, Bool.or_false, Bool.false_or, and_true, true_and, and_self, Nat.zero_add, Nat.add_zero, Int.toNat_zero, Nat.zero_mul, wp_pure, beq_self_eq_true, bne_self_eq_false, reduceCtorEq, memr, buildSlice, build, reps, fill, sizesOf, List.take_succ_cons, List.take_zero, List.drop_succ_cons, List.drop_zero, Nat.reduceMul, Nat.ble, Nat.reduceLeDiff, Nat.mul_one, Nat.one_mul, writeCells, setAll, Cont.size, Cont.set, Cont.at, Cont.sub, upd_same, upd_ne, List.all_cons, List.all_nil, Option.some.injEq, exists_eq_left', Int.reduceToNat, ne_eq, and_true, true_and, List.length_cons, List.length_nil, Nat.mul_zero, Nat.zero_mul, k5, own5.kind]
          obtain ⟨cs, hown, hopc, hnx⟩ := hv
          have jn : ∀ j, ownId out = some j → j < n ∧ j ≠ c4 ∧ j ≠ c5 ∧ j ≠ b ∧ j ≠ id := fun j hj => by
            have h1 := hown.id_lt hj
            have h2 := hnx j hj
            omega
          obtain ⟨H5, hH5⟩ : ∃ H5, H5 = upd h5' n (some (Blk.row (Cont.l [AVal.int IntKind.u8 (c.toNat : Int), d1]) 32)) := ⟨_, rfl⟩
          rw [← hH5]
          have b5 : ∀ j, j < n → H5 j = h j := fun j hj => by rw [hH5, upd_ne _ _ (by omega), old5 j (by omega)]; simp (disch := omega) only [upd_ne]
          have f5 : Free H5 n5 := by rw [hH5]; exact hf5'.upd (by omega)
          have kid : H5 id = some (.loop (L21 (x0 :: AVal.junk :: x2 :: x3 :: .ptr c4 0 :: .ptr c5 0 :: x6 :: x7 :: AVal.junk :: x9 :: x10 :: x11 :: AVal.junk :: x13 :: AVal.junk :: AVal.junk :: AVal.junk :: AVal.junk :: AVal.junk :: x19 :: AVal.junk :: AVal.junk :: []))) := (b5 id (by omega)).trans hi
          have k4 : H5 c4 = some (.row (.l [out]) 22) := (b5 c4 (by omega)).trans h4
          have kb : H5 b = some (.row (.l [s]) 23) := (b5 b (by omega)).trans hb
          have dlt : ∀ j, ownId d1 = some j → n + 1 ≤ j ∧ j < n5 := fun j hj => ⟨ids5 j hj, own5.id_lt hj⟩
          have dby : Bytes H5 d1 ((r.drop (szV c)).take (daV c r)) := own5.bytes.keep fun j hj => by rw [hH5, upd_ne _ _ (by have := dlt j hj; omega)]
          have dbel : Below0 n5 d1 := own5.below
          have droom : RoomyM d1 := own_roomy own5
          have dk := own5.kind
          refine opv_yield (l := L21 (x0 :: AVal.junk :: x2 :: x3 :: .ptr c4 0 :: .ptr c5 0 :: x6 :: x7 :: AVal.junk :: x9 :: x10 :: x11 :: AVal.junk :: x13 :: AVal.junk :: AVal.junk :: AVal.junk :: AVal.junk :: AVal.junk :: x19 :: AVal.junk :: AVal.junk :: [])) kid rfl rfl ?_
          simp (disch := omega) only [ra21_0, List.getD_cons_zero, List.getD_cons_succ, putAll, List.zip_cons_cons, List.zip_nil_left, L21, rangesOf, Try.f21, Option.getD_some, core1, cont_block_any, opg_un, u8, tyr, fgr, hkr, execOp, opd, opds, opt, ofValue, ofArr, ofList, ops2, putT, put, nth, forgetL, doCall, callV_func, builtin, one1, two2, some1, foldM2, min2, max2, blr, bCopy, intB, und, sizeOf, zeroOf, lenOf, bor, binInt, binOther, shiftB, shiftOp, intOp, wrapI, strOp, strK, intK, slK, aggK, unOp, doPick, branch, idx, readCells, cellsOf, oneOf, aggB, cel, alloc, doAlloc, newRow, nilCheck, extract, getO, ended, resultOf, oneOrTup, rowK, loopK, moved, fieldAddr, field, part, index, sameSz, equalTop, equal, nilFn, nilPtr, nilSl1, nilSl2, nilSl3, boolOf, List.getElem?_cons_succ, List.getElem?_cons_zero, List.append_eq, List.cons_append, List.nil_append, List.append_nil, List.length_cons, List.length_nil, Nat.reduceAdd, Nat.reduceSub, Nat.beq, Option.bind_some, nc0, nc1, Int.cast_ofNat_Int, int_beq, int_bne, str_beq, ↓reduceIte, Int.reduceEq, Int.reduceLT, Int.reduceLE, Int.reduceNe, Int.reduceAdd, Int.reduceSub, Int.reduceMul, Int.reduceNeg, Int.reduceGT, Int.reduceGE, ge_iff_le, gt_iff_lt, not_true_eq_false, not_false_eq_true, decide_not, decide_true, decide_false, Bool.not_true, Bool.not_false, Bool.and_true, Bool.true_and, Bool.and_false, Bool.false_and, Bool.or_true, Bool.true_or, Bool.or_false, Bool.false_or, and_true, true_and, and_self, Nat.zero_add, Nat.add_zero, Int.toNat_zero, Nat.zero_mul, wp_pure, beq_self_eq_true, bne_self_eq_false, reduceCtorEq, memr, buildSlice, build, reps, fill, sizesOf, List.take_succ_cons, List.take_zero, List.drop_succ_cons, List.drop_zero, Nat.reduceMul, Nat.ble, Nat.reduceLeDiff, Nat.mul_one, Nat.one_mul, writeCells, setAll, Cont.size, Cont.set, Cont.at, Cont.sub, upd_same, upd_ne, List.all_cons, List.all_nil, Option.some.injEq, exists_eq_left', Int.reduceToNat, ne_eq, and_true, true_and, List.length_cons, List.length_nil, Nat.mul_zero, Nat.zero_mul, dk]
          refine ⟨_, kid, rfl, ?_⟩
          simp (disch := omega) only [rb21_0, List.getD_cons_zero, List.getD_cons_succ, putAll, List.zip_cons_cons, List.zip_nil_left, L21, rangesOf, Try.f21, Option.getD_some, core1, cont_block_any, opg_un, u8, tyr, fgr, hkr, execOp, opd, opds, opt, ofValue, ofArr, ofList, ops2, putT, put, nth, forgetL, doCall, callV_func, builtin, one1, two2, some1, foldM2, min2, max2, blr, bCopy, intB, und, sizeOf, zeroOf, lenOf, bor, binInt, binOther, shiftB, shiftOp, intOp, wrapI, strOp, strK, intK, slK, aggK, unOp, doPick, branch, idx, readCells, cellsOf, oneOf, aggB, cel, alloc, doAlloc, newRow, nilCheck, extract, getO, ended, resultOf, oneOrTup, rowK, loopK, moved, fieldAddr, field, part, index, sameSz, equalTop, equal, nilFn, nilPtr, nilSl1, nilSl2, nilSl3, boolOf, List.getElem?_cons_succ, List.getElem?_cons_zero, List.append_eq, List.cons_append, List.nil_append, List.append_nil, List.length_cons, List.length_nil, Nat.reduceAdd, Nat.reduceSub, Nat.beq, Option.bind_some, nc0, nc1, Int.cast_ofNat_Int, int_beq, int_bne, str_beq, ↓reduceIte, Int.reduceEq, Int.reduceLT, Int.reduceLE, Int.reduceNe, Int.reduceAdd, Int.reduceSub, Int.reduceMul, Int.reduceNeg, Int.reduceGT, Int.reduceGE, ge_iff_le, gt_iff_lt, not_true_eq_false, not_false_eq_true, decide_not, decide_true, decide_false, Bool.not_true, Bool.not_false, Bool.and_true, Bool.true_and, Bool.and_false, Bool.false_and, Bool.or_true, Bool.true_or, Bool.or_false, Bool.false_or, and_true, true_and, and_self, Nat.zero_add, Nat.add_zero, Int.toNat_zero, Nat.zero_mul, wp_pure, beq_self_eq_true, bne_self_eq_false, reduceCtorEq, memr, buildSlice, build, reps, fill, sizesOf, List.take_succ_cons, List.take_zero, List.drop_succ_cons, List.drop_zero, Nat.reduceMul, Nat.ble, Nat.reduceLeDiff, Nat.mul_one, Nat.one_mul, writeCells, setAll, Cont.size, Cont.set, Cont.at, Cont.sub, upd_same, upd_ne, List.all_cons, List.all_nil, Option.some.injEq, exists_eq_left', Int.reduceToNat, ne_eq, and_true, true_and, List.length_cons, List.length_nil, Nat.mul_zero, Nat.zero_mul, k4, dk]
          refine own_append (i := ty32.i) (e := 32) (e2 := 32) (xs := cs) (ys := [u8 c, d1]) (cnt := os.length) (hown.keep (by omega) fun j hj => by have := jn j hj; simp (disch := omega) only [upd_ne]; exact b5 j (by omega)) rfl rfl (show ti env 32 = M.pure ty32.i from rfl) (upd_same _ _ _) rfl (by decide) (by decide) (by simp only [List.all_cons, List.all_nil, dk.2.1]; rfl)
            (fun e => by have := jn _ e; omega) (by show 2 * (os.length + 1) * 32 ≤ _; omega) (by omega) ?_
          intro v1 H1 ho1 hid1 hold1
          have dne : ∀ j, ownId d1 = some j → ¬ (ownId v1 = some j ∨ (j = c4 ∨ j = c5 ∨ j = b ∨ j = id ∨ j < N)) := fun j hj e => by
            have := dlt j hj
            rcases e with e | e
            · rw [hid1] at e; injection e with e; omega
            · omega
          have gA : ∀ j, j < n5 → j ≠ id → ownId out ≠ some j → H1 j = H5 j := fun j q1 q2 q3 => by rw [hold1 j (by omega) q3]; simp (disch := omega) only [upd_ne]
          have gB : ∀ j, j < n → j ≠ id → ownId out ≠ some j → H1 j = h j := fun j q1 q2 q3 => (gA j (by omega) q2 q3).trans (b5 j q1)
          have g4 : H1 c4 = some (.row (.l [out]) 22) := by rw [gB c4 (by omega) (by omega) (fun e => by have := jn _ e; omega)]; exact h4
          have gb : H1 b = some (.row (.l [s]) 23) := by rw [gB b (by omega) (by omega) (fun e => by have := jn _ e; omega)]; exact hb
          have gi := hold1 id (by omega) (fun e => by have := jn _ e; omega)
          rw [upd_ne _ _ (by omega), upd_same] at gi
          simp (disch := omega) only [core1, cont_block_any, opg_un, u8, tyr, fgr, hkr, execOp, opd, opds, opt, ofValue, ofArr, ofList, ops2, putT, put, nth, forgetL, doCall, callV_func, builtin, one1, two2, some1, foldM2, min2, max2, blr, bCopy, intB, und, sizeOf, zeroOf, lenOf, bor, binInt, binOther, shiftB, shiftOp, intOp, wrapI, strOp, strK, intK, slK, aggK, unOp, doPick, branch, idx, readCells, cellsOf, oneOf, aggB, cel, alloc, doAlloc, newRow, nilCheck, extract, getO, ended, resultOf, oneOrTup, rowK, loopK, moved, fieldAddr, field, part, index, sameSz, equalTop, equal, nilFn, nilPtr, nilSl1, nilSl2, nilSl3, boolOf, List.getElem?_cons_succ, List.getElem?_cons_zero, List.append_eq, List.cons_append, List.nil_append, List.append_nil, List.length_cons, List.length_nil, Nat.reduceAdd, Nat.reduceSub, Nat.beq, Option.bind_some, nc0, nc1, Int.cast_ofNat_Int, int_beq, int_bne, str_beq, ↓reduceIte, Int.reduceEq, Int.reduceLT, Int.reduceLE, Int.reduceNe, Int.reduceAdd, Int.reduceSub, Int.reduceMul, Int.reduceNeg, Int.reduceGT, Int.reduceGE, ge_iff_le, gt_iff_lt, not_true_eq_false, not_false_eq_true, decide_not, decide_true, decide_false, Bool.not_true, Bool.not_false, Bool.and_true, Bool.true_and, Bool.and_false, Bool.false_and, Bool.or_true, Bool.true_or, Bool.or_false, Bool.false_or, and_true, true_and, and_self, Nat.zero_add, Nat.add_zero, Int.toNat_zero, Nat.zero_mul, wp_pure, beq_self_eq_true, bne_self_eq_false, reduceCtorEq, memr, buildSlice, build, reps, fill, sizesOf, List.take_succ_cons, List.take_zero, List.drop_succ_cons, List.drop_zero, Nat.reduceMul, Nat.ble, Nat.reduceLeDiff, Nat.mul_one, Nat.one_mul, writeCells, setAll, Cont.size, Cont.set, Cont.at, Cont.sub, upd_same, upd_ne, List.all_cons, List.all_nil, Option.some.injEq, exists_eq_left', Int.reduceToNat, ne_eq, and_true, true_and, List.length_cons, List.length_nil, Nat.mul_zero, Nat.zero_mul, g4, gb, gi, ho1.kind, Blk.loop.injEq, normB, jumpOf, hwd]
          have hs1 : ∀ bb, Bytes (upd (upd H1 c4 (some (Blk.row (Cont.l [v1]) 22))) id bb) s (c :: r) := fun bb => hs.keep fun j hj => by
            have q := hsx j hj
            have q2 := hsN j hj
            rw [upd_ne _ _ (by omega), upd_ne _ _ (by omega)]
            exact gB j q2 (by omega) q.2.2.2.2
          rw [opv_rd ((hs1 _).tail_rd t23 s5 (by omega) (by simp only [List.length_cons]; omega))]
          simp (disch := omega) only [core1, cont_block_any, opg_un, u8, tyr, fgr, hkr, execOp, opd, opds, opt, ofValue, ofArr, ofList, ops2, putT, put, nth, forgetL, doCall, callV_func, builtin, one1, two2, some1, foldM2, min2, max2, blr, bCopy, intB, und, sizeOf, zeroOf, lenOf, bor, binInt, binOther, shiftB, shiftOp, intOp, wrapI, strOp, strK, intK, slK, aggK, unOp, doPick, branch, idx, readCells, cellsOf, oneOf, aggB, cel, alloc, doAlloc, newRow, nilCheck, extract, getO, ended, resultOf, oneOrTup, rowK, loopK, moved, fieldAddr, field, part, index, sameSz, equalTop, equal, nilFn, nilPtr, nilSl1, nilSl2, nilSl3, boolOf, List.getElem?_cons_succ, List.getElem?_cons_zero, List.append_eq, List.cons_append, List.nil_append, List.append_nil, List.length_cons, List.length_nil, Nat.reduceAdd, Nat.reduceSub, Nat.beq, Option.bind_some, nc0, nc1, Int.cast_ofNat_Int, int_beq, int_bne, str_beq, ↓reduceIte, Int.reduceEq, Int.reduceLT, Int.reduceLE, Int.reduceNe, Int.reduceAdd, Int.reduceSub, Int.reduceMul, Int.reduceNeg, Int.reduceGT, Int.reduceGE, ge_iff_le, gt_iff_lt, not_true_eq_false, not_false_eq_true, decide_not, decide_true, decide_false, Bool.not_true, Bool.not_false, Bool.and_true, Bool.true_and, Bool.and_false, Bool.false_and, Bool.or_true, Bool.true_or, Bool.or_false, Bool.false_or, and_true, true_and, and_self, Nat.zero_add, Nat.add_zero, Int.toNat_zero, Nat.zero_mul, wp_pure, beq_self_eq_true, bne_self_eq_false, reduceCtorEq, memr, buildSlice, build, reps, fill, sizesOf, List.take_succ_cons, List.take_zero, List.drop_succ_cons, List.drop_zero, Nat.reduceMul, Nat.ble, Nat.reduceLeDiff, Nat.mul_one, Nat.one_mul, writeCells, setAll, Cont.size, Cont.set, Cont.at, Cont.sub, upd_same, upd_ne, List.all_cons, List.all_nil, Option.some.injEq, exists_eq_left', Int.reduceToNat, ne_eq, and_true, true_and, List.length_cons, List.length_nil, Nat.mul_zero, Nat.zero_mul, Int.toNat_natCast, gb, (hsb.sub _ _ |> fun (_ : Below0 n (subOf (1 + szV c + daV c r) (r.length + 1) s)) => (hs.sub (lo := 1 + szV c + daV c r) (hi := r.length + 1) (by omega) (by simp)).kind)]
          have hrest : splitV (c :: r) = ((c, ((r.drop (szV c)).take (daV c r))) :: (splitV (r.drop (szV c + daV c r))).1, (splitV (r.drop (szV c + daV c r))).2) := split_yes hok
          have hk1 := ho1.kind
          have gN : ∀ j, j < n → j ≠ id → j ≠ c4 → j ≠ b → ownId out ≠ some j → (upd (upd (upd H1 c4 (some (Blk.row (Cont.l [v1]) 22))) id (some (.loop (L21 (x0 :: AVal.junk :: x2 :: x3 :: .ptr c4 0 :: .ptr c5 0 :: x6 :: x7 :: AVal.junk :: x9 :: x10 :: x11 :: AVal.junk :: x13 :: AVal.junk :: AVal.junk :: AVal.junk :: AVal.junk :: AVal.junk :: x19 :: AVal.junk :: AVal.junk :: []))))) b (some (Blk.row (Cont.l [subOf (1 + szV c + daV c r) (r.length + 1) s]) 23))) j = h j := fun j q1 q2 q3 q4 q5 => by
            rw [upd_ne _ _ q4, upd_ne _ _ q2, upd_ne _ _ q3]; exact gB j q1 q2 q5
          have hsubl : ((c :: r).take (r.length + 1)).drop (1 + szV c + daV c r) = r.drop (szV c + daV c r) := by rw [List.take_of_length_le (by simp), show 1 + szV c + daV c r = (szV c + daV c r) + 1 by omega]; rfl
          refine ih (r.drop (szV c + daV c r)) (os ++ [(c, ((r.drop (szV c)).take (daV c r)))]) v1 (subOf (1 + szV c + daV c r) (r.length + 1) s) _ (n5 + 1 + 1 + 1) _ _ _ _ _ _ _ _ _ _ _ _ _ _ _ _ _ _ _ _ _ _ _ _ _ _ _ _ _ _ _ _ _ _ _ _ _ _ _ _ (by rw [List.length_drop]; omega) (by rw [List.length_drop]; omega) (by rw [List.length_append]; simp only [List.length_singleton]; omega) (by omega) ?_ ?_ ?_ (upd_same _ _ _) ?_ ?_ ((hsb.sub _ _).mono (by omega)) (hsr.sub hs (by omega) (by simp)) ?_ ?_ ?_ ?_
          · intro j hj
            rw [upd_ne _ _ (by omega), upd_ne _ _ (by omega), upd_ne _ _ (by omega), hold1 j (by omega) (fun e => by have := jn j e; omega)]
            simp (disch := omega) only [upd_ne]
            exact f5 j (by omega)
          · rw [upd_ne _ _ (by omega), upd_ne _ _ (by omega)]; exact upd_same _ _ _
          · exact (gN c5 (by omega) (by omega) (by omega) (by omega) (fun e => by have := jn _ e; omega)).trans h5
          · rw [upd_ne _ _ (by omega)]; exact upd_same _ _ _
          · have := (hs.keep (h' := upd (upd (upd H1 c4 (some (Blk.row (Cont.l [v1]) 22))) id (some (.loop (L21 (x0 :: AVal.junk :: x2 :: x3 :: .ptr c4 0 :: .ptr c5 0 :: x6 :: x7 :: AVal.junk :: x9 :: x10 :: x11 :: AVal.junk :: x13 :: AVal.junk :: AVal.junk :: AVal.junk :: AVal.junk :: AVal.junk :: x19 :: AVal.junk :: AVal.junk :: []))))) b (some (Blk.row (Cont.l [subOf (1 + szV c + daV c r) (r.length + 1) s]) 23))) fun j hj => by
              have q := hsx j hj
              have q2 := hsN j hj
              exact gN j q2 (by omega) (by omega) (by omega) q.2.2.2.2).sub (lo := 1 + szV c + daV c r) (hi := r.length + 1) (by omega) (by simp)
            rw [hsubl] at this
            exact this
          · intro j hj
            rw [sub_id] at hj
            have q := hsx j hj
            have q2 := hsN j hj
            exact ⟨q.1, q.2.1, q.2.2.1, q.2.2.2.1, fun e => by rw [hid1] at e; injection e with e; omega⟩
          · refine ⟨cs ++ [u8 c, d1], ?_, ?_, ?_⟩
            · have : Own H1 (n5 + 1 + 1 + 1) 32 2 v1 (os.length + 1) (cs ++ [u8 c, d1]) := ho1
              rw [List.length_append]
              exact this.keep (Nat.le_refl _) fun j hj => by rw [hid1] at hj; injection hj with hj; rw [upd_ne _ _ (by omega), upd_ne _ _ (by omega), upd_ne _ _ (by omega)]
            · refine OpC.snoc (hopc.keep (by omega) (fun j q1 q2 => ?_) (fun j q1 q2 => ?_)) c d1 ((r.drop (szV c)).take (daV c r)) (dby.keep fun j hj => by have := dlt j hj; rw [upd_ne _ _ (by omega), upd_ne _ _ (by omega), upd_ne _ _ (by omega)]; exact gA j (by omega) (by omega) (fun e => by have := jn _ e; omega)) (dbel.mono (by omega)) droom dne
              · simp only [not_or] at q2
                obtain ⟨p1, p2⟩ := q2
                exact gN j q1 (by omega) (by omega) (by omega) p1
              · rcases q2 with e | e
                · rw [hid1] at e; injection e with e; omega
                · exact .inr e
            · intro j hj; rw [hid1] at hj; injection hj with hj; omega
          · intro j hj; rw [hid1] at hj; injection hj with hj; omega
          · intro out2 h2 n2 e2 tm2 L2 q1 q2 q3 q4 q5 q6 q7 q8
            refine hq out2 h2 n2 e2 tm2 L2 (by rw [hrest]; exact q1) q2 q3 q4 (by rw [hrest]; simpa using q5) q6 q7 (fun j hj => ?_)
            rw [q8 j hj]
            exact gN j (by omega) (by omega) (by omega) (by omega) (fun e => by have := hvN j e; omega)
theorem load_cell_rd {E : Env} {h : Hp} {n id e : Nat} {t : TypeId} {i : TI} {x : AVal} (hh : h id = some (.row (.l [x]) e)) (hi : ti E t = M.pure i) (ha : aggB i.desc = false) : Rd (load E t (.ptr id 0)) h n [id] x := by
  simp only [load, hi, bind_pure, ha, readCells, bind_assoc]
  refine Rd.bind (i2 := []) (Rd.get hh) ?_
  simp only [rowK, bind_assoc]
  exact Rd.bind (i2 := []) (Rd.ob rfl) (Rd.pure _)
/-- What Split answers. -/
def SplitS (h : Hp) (n : Nat) (l : List UInt8) (v : AVal) (h' : Hp) (n' : Nat) : Prop :=
  ∃ x, v = .tup [x, .int .i64 (match (splitV l).2 with | true => 0 | false => 100)] ∧ OpsV h' n' (fun j => j < n) x (match (splitV l).2 with | true => (splitV l).1 | false => []) ∧ Old h h' n ∧ Free h' n'
theorem OpsV.weak {h : Hp} {n : Nat} {X X' : Nat → Prop} {v : AVal} {os : List OpD} (hv : OpsV h n X v os) (hx : ∀ j, X' j → X j) : OpsV h n X' v os := by
  obtain ⟨cs, a, b, c⟩ := hv
  exact ⟨cs, a, b.keep (Nat.le_refl _) (fun _ _ _ => rfl) (fun j _ q => q.imp_right (hx j)), fun j hj q => c j hj (hx j q)⟩
theorem f38 (s : AVal) (l : List UInt8) (h : Hp) (n : Nat) (hs : Bytes h s l) : Wp (callI env (evalW env) 38 [s]) h n fun v' h' n' => v' = .fn (.func 39) [] [.ptr n 0] ∧ h' = upd h n (some (.row (.l [s]) 23)) ∧ n' = n + 1 := by
  refine wp_callI ff38 fi38 ?_
  simp only [fu38, Try.f38, Option.getD_some, List.replicate, core1, cont_block_any, opg_un, u8, tyr, fgr, hkr, execOp, opd, opds, opt, ofValue, ofArr, ofList, ops2, putT, put, nth, forgetL, doCall, callV_func, builtin, one1, two2, some1, foldM2, min2, max2, blr, bCopy, intB, und, sizeOf, zeroOf, lenOf, bor, binInt, binOther, shiftB, shiftOp, intOp, wrapI, strOp, strK, intK, slK, aggK, unOp, doPick, branch, idx, readCells, cellsOf, oneOf, aggB, cel, alloc, doAlloc, newRow, nilCheck, extract, getO, ended, resultOf, oneOrTup, rowK, loopK, moved, fieldAddr, field, part, index, sameSz, equalTop, equal, nilFn, nilPtr, nilSl1, nilSl2, nilSl3, boolOf, List.getElem?_cons_succ, List.getElem?_cons_zero, List.append_eq, List.cons_append, List.nil_append, List.append_nil, List.length_cons, List.length_nil, Nat.reduceAdd, Nat.reduceSub, Nat.beq, Option.bind_some, nc0, nc1, Int.cast_ofNat_Int, int_beq, int_bne, str_beq, ↓reduceIte, Int.reduceEq, Int.reduceLT, Int.reduceLE, Int.reduceNe, Int.reduceAdd, Int.reduceSub, Int.reduceMul, Int.reduceNeg, Int.reduceGT, Int.reduceGE, ge_iff_le, gt_iff_lt, not_true_eq_false, not_false_eq_true, decide_not, decide_true, decide_false, Bool.not_true, Bool.not_false, Bool.and_true, Bool.true_and, Bool.and_false, Bool.false_and, Bool.or_true, Bool.true_or, Bool.or_false, Bool.false_or, and_true, true_and, and_self, Nat.zero_add, Nat.add_zero, Int.toNat_zero, Nat.zero_mul, wp_pure, beq_self_eq_true, bne_self_eq_false, reduceCtorEq, hs.kind]
theorem f21 (v : AVal) (l : List UInt8) (h : Hp) (n : Nat) (hb : Bytes h v l) (hbb : Below0 n v) (hbr : Roomy v) (hf : Free h n) (hl : l.length ≤ 100000000) : Wp (callI env (evalW env) 21 [v]) h n (SplitS h n l) := by
  refine wp_callI ff21 fi21 ?_
  have hb1 : Bytes (upd (upd (upd h n (some (Blk.row (Cont.l [AVal.nils]) 22))) (n + 1) (some (Blk.row (Cont.l [AVal.int IntKind.i64 0]) 25))) (n + 1) (some (Blk.row (Cont.l [AVal.int IntKind.i64 0]) 25))) v l := hb.keep fun j hj => by
    have := below_own hbb hj; simp (disch := omega) only [upd_ne]
  simp (disch := omega) only [fu21, Try.f21, Option.getD_some, List.replicate, core1, cont_block_any, opg_un, u8, tyr, fgr, hkr, execOp, opd, opds, opt, ofValue, ofArr, ofList, ops2, putT, put, nth, forgetL, doCall, callV_func, builtin, one1, two2, some1, foldM2, min2, max2, blr, bCopy, intB, und, sizeOf, zeroOf, lenOf, bor, binInt, binOther, shiftB, shiftOp, intOp, wrapI, strOp, strK, intK, slK, aggK, unOp, doPick, branch, idx, readCells, cellsOf, oneOf, aggB, cel, alloc, doAlloc, newRow, nilCheck, extract, getO, ended, resultOf, oneOrTup, rowK, loopK, moved, fieldAddr, field, part, index, sameSz, equalTop, equal, nilFn, nilPtr, nilSl1, nilSl2, nilSl3, boolOf, List.getElem?_cons_succ, List.getElem?_cons_zero, List.append_eq, List.cons_append, List.nil_append, List.append_nil, List.length_cons, List.length_nil, Nat.reduceAdd, Nat.reduceSub, Nat.beq, Option.bind_some, nc0, nc1, Int.cast_ofNat_Int, int_beq, int_bne, str_beq, ↓reduceIte, Int.reduceEq, Int.reduceLT, Int.reduceLE, Int.reduceNe, Int.reduceAdd, Int.reduceSub, Int.reduceMul, Int.reduceNeg, Int.reduceGT, Int.reduceGE, ge_iff_le, gt_iff_lt, not_true_eq_false, not_false_eq_true, decide_not, decide_true, decide_false, Bool.not_true, Bool.not_false, Bool.and_true, Bool.true_and, Bool.and_false, Bool.false_and, Bool.or_true, Bool.true_or, Bool.or_false, Bool.false_or, and_true, true_and, and_self, Nat.zero_add, Nat.add_zero, Int.toNat_zero, Nat.zero_mul, wp_pure, beq_self_eq_true, bne_self_eq_false, reduceCtorEq, memr, buildSlice, build, reps, fill, sizesOf, List.take_succ_cons, List.take_zero, List.drop_succ_cons, List.drop_zero, Nat.reduceMul, Nat.ble, Nat.reduceLeDiff, Nat.mul_one, Nat.one_mul, writeCells, setAll, Cont.size, Cont.set, Cont.at, Cont.sub, upd_same, upd_ne, List.all_cons, List.all_nil, Option.some.injEq, exists_eq_left', Int.reduceToNat, ne_eq, and_true, true_and, List.length_cons, List.length_nil, Nat.mul_zero, Nat.zero_mul, opv_det (f38 v l _ (n + 1 + 1) hb1)]
  refine run_range (g := 39) (first := []) (cap := [.ptr (n + 1 + 1) 0]) rfl rfl ?_
  refine wp_callI ff39 fi39 ?_
  simp only [fu39, Try.f39, Option.getD_some, List.replicate, core1, cont_block_any, opg_un, u8, tyr, fgr, hkr, execOp, opd, opds, opt, ofValue, ofArr, ofList, ops2, putT, put, nth, forgetL, doCall, callV_func, builtin, one1, two2, some1, foldM2, min2, max2, blr, bCopy, intB, und, sizeOf, zeroOf, lenOf, bor, binInt, binOther, shiftB, shiftOp, intOp, wrapI, strOp, strK, intK, slK, aggK, unOp, doPick, branch, idx, readCells, cellsOf, oneOf, aggB, cel, alloc, doAlloc, newRow, nilCheck, extract, getO, ended, resultOf, oneOrTup, rowK, loopK, moved, fieldAddr, field, part, index, sameSz, equalTop, equal, nilFn, nilPtr, nilSl1, nilSl2, nilSl3, boolOf, List.getElem?_cons_succ, List.getElem?_cons_zero, List.append_eq, List.cons_append, List.nil_append, List.append_nil, List.length_cons, List.length_nil, Nat.reduceAdd, Nat.reduceSub, Nat.beq, Option.bind_some, nc0, nc1, Int.cast_ofNat_Int, int_beq, int_bne, str_beq, ↓reduceIte, Int.reduceEq, Int.reduceLT, Int.reduceLE, Int.reduceNe, Int.reduceAdd, Int.reduceSub, Int.reduceMul, Int.reduceNeg, Int.reduceGT, Int.reduceGE, ge_iff_le, gt_iff_lt, not_true_eq_false, not_false_eq_true, decide_not, decide_true, decide_false, Bool.not_true, Bool.not_false, Bool.and_true, Bool.true_and, Bool.and_false, Bool.false_and, Bool.or_true, Bool.true_or, Bool.or_false, Bool.false_or, and_true, true_and, and_self, Nat.zero_add, Nat.add_zero, Int.toNat_zero, Nat.zero_mul, wp_pure, beq_self_eq_true, bne_self_eq_false, reduceCtorEq]
  refine loop39 _ _ n n (n + 1) (n + 1 + 1) (n + 1 + 1 + 1) _ _ _ _ _ _ _ _ _ _ (by omega) (by omega) l.length l [] .nils v _ (n + 1 + 1 + 1 + 1) _ _ _ _ _ _ _ _ _ _ _ _ _ _ _ _ _ _ _ _ _ _ _ _ _ _ _ _ _ _ _ _ _ _ _ _ _ _ _ _ (Nat.le_refl _) hl (by simp; exact hl) (by omega) ?_ ?_ ?_ ?_ (upd_same _ _ _) ?_ (hbb.mono (by omega)) hbr ?_ ⟨[], .nil, .nil, fun j hj => by cases hj⟩ (fun j hj => by cases hj) ?_
  · intro j hj
    simp (disch := omega) only [upd_ne]
    exact hf j (by omega)
  · simp (disch := omega) only [upd_same, upd_ne]
  · simp (disch := omega) only [upd_same, upd_ne]
  · simp (disch := omega) only [upd_same, upd_ne]
  · exact hb.keep fun j hj => by have := below_own hbb hj; simp (disch := omega) only [upd_ne]
  · intro j hj
    have := below_own hbb hj
    exact ⟨by omega, by omega, by omega, by omega, fun e => by cases e⟩
  · intro out h2 n2 e tm L hcase hL hout hn2 hops hown hf2 hold2
    have hold3 : Old h (upd h2 (n + 1 + 1 + 1) (some (.loop { L with state := .exhausted }))) n := fun j hj => by
      rw [upd_ne _ _ (by omega), hold2 j hj]; simp (disch := omega) only [upd_ne]
    have hf3 : Free (upd h2 (n + 1 + 1 + 1) (some (.loop { L with state := .exhausted }))) n2 := hf2.upd (by omega)
    have hops3 : OpsV (upd h2 (n + 1 + 1 + 1) (some (.loop { L with state := .exhausted }))) n2 (fun j => j < n) out (splitV l).1 :=
      (hops.keep (Nat.le_refl _) fun j _ hx => upd_ne _ _ (by omega)).weak fun j hj => by omega
    rcases hcase with ⟨rfl, hz, hs1, hs2, h5⟩ | ⟨rfl, hz, hs1, hs2, h5⟩
    · simp only [core1, cont_block_any, opg_un, u8, tyr, fgr, hkr, execOp, opd, opds, opt, ofValue, ofArr, ofList, ops2, putT, put, nth, forgetL, doCall, callV_func, builtin, one1, two2, some1, foldM2, min2, max2, blr, bCopy, intB, und, sizeOf, zeroOf, lenOf, bor, binInt, binOther, shiftB, shiftOp, intOp, wrapI, strOp, strK, intK, slK, aggK, unOp, doPick, branch, idx, readCells, cellsOf, oneOf, aggB, cel, alloc, doAlloc, newRow, nilCheck, extract, getO, ended, resultOf, oneOrTup, rowK, loopK, moved, fieldAddr, field, part, index, sameSz, equalTop, equal, nilFn, nilPtr, nilSl1, nilSl2, nilSl3, boolOf, List.getElem?_cons_succ, List.getElem?_cons_zero, List.append_eq, List.cons_append, List.nil_append, List.append_nil, List.length_cons, List.length_nil, Nat.reduceAdd, Nat.reduceSub, Nat.beq, Option.bind_some, nc0, nc1, Int.cast_ofNat_Int, int_beq, int_bne, str_beq, ↓reduceIte, Int.reduceEq, Int.reduceLT, Int.reduceLE, Int.reduceNe, Int.reduceAdd, Int.reduceSub, Int.reduceMul, Int.reduceNeg, Int.reduceGT, Int.reduceGE, ge_iff_le, gt_iff_lt, not_true_eq_false, not_false_eq_true, decide_not, decide_true, decide_false, Bool.not_true, Bool.not_false, Bool.and_true, Bool.true_and, Bool.and_false, Bool.false_and, Bool.or_true, Bool.true_or, Bool.or_false, Bool.false_or, and_true, true_and, and_self, Nat.zero_add, Nat.add_zero, Int.toNat_zero, Nat.zero_mul, wp_pure, beq_self_eq_true, bne_self_eq_false, reduceCtorEq]
      refine ⟨L, hL, by rw [hs1]; simp, .normal, by rw [hs2], ?_⟩
      simp (disch := omega) only [core1, cont_block_any, opg_un, u8, tyr, fgr, hkr, execOp, opd, opds, opt, ofValue, ofArr, ofList, ops2, putT, put, nth, forgetL, doCall, callV_func, builtin, one1, two2, some1, foldM2, min2, max2, blr, bCopy, intB, und, sizeOf, zeroOf, lenOf, bor, binInt, binOther, shiftB, shiftOp, intOp, wrapI, strOp, strK, intK, slK, aggK, unOp, doPick, branch, idx, readCells, cellsOf, oneOf, aggB, cel, alloc, doAlloc, newRow, nilCheck, extract, getO, ended, resultOf, oneOrTup, rowK, loopK, moved, fieldAddr, field, part, index, sameSz, equalTop, equal, nilFn, nilPtr, nilSl1, nilSl2, nilSl3, boolOf, List.getElem?_cons_succ, List.getElem?_cons_zero, List.append_eq, List.cons_append, List.nil_append, List.append_nil, List.length_cons, List.length_nil, Nat.reduceAdd, Nat.reduceSub, Nat.beq, Option.bind_some, nc0, nc1, Int.cast_ofNat_Int, int_beq, int_bne, str_beq, ↓reduceIte, Int.reduceEq, Int.reduceLT, Int.reduceLE, Int.reduceNe, Int.reduceAdd, Int.reduceSub, Int.reduceMul, Int.reduceNeg, Int.reduceGT, Int.reduceGE, ge_iff_le, gt_iff_lt, not_true_eq_false, not_false_eq_true, decide_not, decide_true, decide_false, Bool.not_true, Bool.not_false, Bool.and_true, Bool.true_and, Bool.and_false, Bool.false_and, Bool.or_true, Bool.true_or, Bool.or_false, Bool.false_or, and_true, true_and, and_self, Nat.zero_add, Nat.add_zero, Int.toNat_zero, Nat.zero_mul, wp_pure, beq_self_eq_true, bne_self_eq_false, reduceCtorEq, memr, buildSlice, build, reps, fill, sizesOf, List.take_succ_cons, List.take_zero, List.drop_succ_cons, List.drop_zero, Nat.reduceMul, Nat.ble, Nat.reduceLeDiff, Nat.mul_one, Nat.one_mul, writeCells, setAll, Cont.size, Cont.set, Cont.at, Cont.sub, upd_same, upd_ne, List.all_cons, List.all_nil, Option.some.injEq, exists_eq_left', Int.reduceToNat, ne_eq, and_true, true_and, List.length_cons, List.length_nil, Nat.mul_zero, Nat.zero_mul, h5, hout]
      exact ⟨out, by rw [hz], by rw [hz]; exact hops3, hold3, hf3⟩
    · simp only [core1, cont_block_any, opg_un, u8, tyr, fgr, hkr, execOp, opd, opds, opt, ofValue, ofArr, ofList, ops2, putT, put, nth, forgetL, doCall, callV_func, builtin, one1, two2, some1, foldM2, min2, max2, blr, bCopy, intB, und, sizeOf, zeroOf, lenOf, bor, binInt, binOther, shiftB, shiftOp, intOp, wrapI, strOp, strK, intK, slK, aggK, unOp, doPick, branch, idx, readCells, cellsOf, oneOf, aggB, cel, alloc, doAlloc, newRow, nilCheck, extract, getO, ended, resultOf, oneOrTup, rowK, loopK, moved, fieldAddr, field, part, index, sameSz, equalTop, equal, nilFn, nilPtr, nilSl1, nilSl2, nilSl3, boolOf, List.getElem?_cons_succ, List.getElem?_cons_zero, List.append_eq, List.cons_append, List.nil_append, List.append_nil, List.length_cons, List.length_nil, Nat.reduceAdd, Nat.reduceSub, Nat.beq, Option.bind_some, nc0, nc1, Int.cast_ofNat_Int, int_beq, int_bne, str_beq, ↓reduceIte, Int.reduceEq, Int.reduceLT, Int.reduceLE, Int.reduceNe, Int.reduceAdd, Int.reduceSub, Int.reduceMul, Int.reduceNeg, Int.reduceGT, Int.reduceGE, ge_iff_le, gt_iff_lt, not_true_eq_false, not_false_eq_true, decide_not, decide_true, decide_false, Bool.not_true, Bool.not_false, Bool.and_true, Bool.true_and, Bool.and_false, Bool.false_and, Bool.or_true, Bool.true_or, Bool.or_false, Bool.false_or, and_true, true_and, and_self, Nat.zero_add, Nat.add_zero, Int.toNat_zero, Nat.zero_mul, wp_pure, beq_self_eq_true, bne_self_eq_false, reduceCtorEq]
      refine ⟨L, hL, by rw [hs1]; simp, .exit 0, by rw [hs2], ?_⟩
      simp (disch := omega) only [core1, cont_block_any, opg_un, u8, tyr, fgr, hkr, execOp, opd, opds, opt, ofValue, ofArr, ofList, ops2, putT, put, nth, forgetL, doCall, callV_func, builtin, one1, two2, some1, foldM2, min2, max2, blr, bCopy, intB, und, sizeOf, zeroOf, lenOf, bor, binInt, binOther, shiftB, shiftOp, intOp, wrapI, strOp, strK, intK, slK, aggK, unOp, doPick, branch, idx, readCells, cellsOf, oneOf, aggB, cel, alloc, doAlloc, newRow, nilCheck, extract, getO, ended, resultOf, oneOrTup, rowK, loopK, moved, fieldAddr, field, part, index, sameSz, equalTop, equal, nilFn, nilPtr, nilSl1, nilSl2, nilSl3, boolOf, List.getElem?_cons_succ, List.getElem?_cons_zero, List.append_eq, List.cons_append, List.nil_append, List.append_nil, List.length_cons, List.length_nil, Nat.reduceAdd, Nat.reduceSub, Nat.beq, Option.bind_some, nc0, nc1, Int.cast_ofNat_Int, int_beq, int_bne, str_beq, ↓reduceIte, Int.reduceEq, Int.reduceLT, Int.reduceLE, Int.reduceNe, Int.reduceAdd, Int.reduceSub, Int.reduceMul, Int.reduceNeg, Int.reduceGT, Int.reduceGE, ge_iff_le, gt_iff_lt, not_true_eq_false, not_false_eq_true, decide_not, decide_true, decide_false, Bool.not_true, Bool.not_false, Bool.and_true, Bool.true_and, Bool.and_false, Bool.false_and, Bool.or_true, Bool.true_or, Bool.or_false, Bool.false_or, and_true, true_and, and_self, Nat.zero_add, Nat.add_zero, Int.toNat_zero, Nat.zero_mul, wp_pure, beq_self_eq_true, bne_self_eq_false, reduceCtorEq, memr, buildSlice, build, reps, fill, sizesOf, List.take_succ_cons, List.take_zero, List.drop_succ_cons, List.drop_zero, Nat.reduceMul, Nat.ble, Nat.reduceLeDiff, Nat.mul_one, Nat.one_mul, writeCells, setAll, Cont.size, Cont.set, Cont.at, Cont.sub, upd_same, upd_ne, List.all_cons, List.all_nil, Option.some.injEq, exists_eq_left', Int.reduceToNat, ne_eq, and_true, true_and, List.length_cons, List.length_nil, Nat.mul_zero, Nat.zero_mul, h5, hout]
      refine run_draw.2 ⟨rfl, ?_⟩
      simp (disch := omega) only [fe_nil, fe_cons, fe_guard, fego_some, feg_bool, feg_tt, feg_ff, feg_tf, feg_ft, feg_un, fev_ask, fev_ob, fev_pure, fev_fail, core1, cont_block_any, opg_un, u8, tyr, fgr, hkr, execOp, opd, opds, opt, ofValue, ofArr, ofList, ops2, putT, put, nth, forgetL, doCall, callV_func, builtin, one1, two2, some1, foldM2, min2, max2, blr, bCopy, intB, und, sizeOf, zeroOf, lenOf, bor, binInt, binOther, shiftB, shiftOp, intOp, wrapI, strOp, strK, intK, slK, aggK, unOp, doPick, branch, idx, readCells, cellsOf, oneOf, aggB, cel, alloc, doAlloc, newRow, nilCheck, extract, getO, ended, resultOf, oneOrTup, rowK, loopK, moved, fieldAddr, field, part, index, sameSz, equalTop, equal, nilFn, nilPtr, nilSl1, nilSl2, nilSl3, boolOf, List.getElem?_cons_succ, List.getElem?_cons_zero, List.append_eq, List.cons_append, List.nil_append, List.append_nil, List.length_cons, List.length_nil, Nat.reduceAdd, Nat.reduceSub, Nat.beq, Option.bind_some, nc0, nc1, Int.cast_ofNat_Int, int_beq, int_bne, str_beq, ↓reduceIte, Int.reduceEq, Int.reduceLT, Int.reduceLE, Int.reduceNe, Int.reduceAdd, Int.reduceSub, Int.reduceMul, Int.reduceNeg, Int.reduceGT, Int.reduceGE, ge_iff_le, gt_iff_lt, not_true_eq_false, not_false_eq_true, decide_not, decide_true, decide_false, Bool.not_true, Bool.not_false, Bool.and_true, Bool.true_and, Bool.and_false, Bool.false_and, Bool.or_true, Bool.true_or, Bool.or_false, Bool.false_or, and_true, true_and, and_self, Nat.zero_add, Nat.add_zero, Int.toNat_zero, Nat.zero_mul, wp_pure, beq_self_eq_true, bne_self_eq_false, reduceCtorEq]
      rw [fev_rd (load_cell_rd (x := .int .i64 100) (e := 25) (by rw [upd_ne _ _ (by omega)]; exact h5) ti25 rfl)]
      simp (disch := omega) only [fe_nil, fe_cons, fe_guard, fego_some, feg_bool, feg_tt, feg_ff, feg_tf, feg_ft, feg_un, fev_ask, fev_ob, fev_pure, fev_fail, core1, cont_block_any, opg_un, u8, tyr, fgr, hkr, execOp, opd, opds, opt, ofValue, ofArr, ofList, ops2, putT, put, nth, forgetL, doCall, callV_func, builtin, one1, two2, some1, foldM2, min2, max2, blr, bCopy, intB, und, sizeOf, zeroOf, lenOf, bor, binInt, binOther, shiftB, shiftOp, intOp, wrapI, strOp, strK, intK, slK, aggK, unOp, doPick, branch, idx, readCells, cellsOf, oneOf, aggB, cel, alloc, doAlloc, newRow, nilCheck, extract, getO, ended, resultOf, oneOrTup, rowK, loopK, moved, fieldAddr, field, part, index, sameSz, equalTop, equal, nilFn, nilPtr, nilSl1, nilSl2, nilSl3, boolOf, List.getElem?_cons_succ, List.getElem?_cons_zero, List.append_eq, List.cons_append, List.nil_append, List.append_nil, List.length_cons, List.length_nil, Nat.reduceAdd, Nat.reduceSub, Nat.beq, Option.bind_some, nc0, nc1, Int.cast_ofNat_Int, int_beq, int_bne, str_beq, ↓reduceIte, Int.reduceEq, Int.reduceLT, Int.reduceLE, Int.reduceNe, Int.reduceAdd, Int.reduceSub, Int.reduceMul, Int.reduceNeg, Int.reduceGT, Int.reduceGE, ge_iff_le, gt_iff_lt, not_true_eq_false, not_false_eq_true, decide_not, decide_true, decide_false, Bool.not_true, Bool.not_false, Bool.and_true, Bool.true_and, Bool.and_false, Bool.false_and, Bool.or_true, Bool.true_or, Bool.or_false, Bool.false_or, and_true, true_and, and_self, Nat.zero_add, Nat.add_zero, Int.toNat_zero, Nat.zero_mul, wp_pure, beq_self_eq_true, bne_self_eq_false, reduceCtorEq]
      refine ⟨?_, .nils, ?_⟩
      · simp only [fine, List.all_cons, List.all_nil, clash_pl, clash_pr, Bool.not_false, Bool.true_or, Bool.and_true]
      · exact ⟨by rw [hz], by rw [hz]; exact ⟨[], .nil, .nil, fun j hj => by cases hj⟩, hold3, hf3⟩
theorem OpsV.below {h : Hp} {n : Nat} {X : Nat → Prop} {v : AVal} {os : List OpD} (hv : OpsV h n X v os) : Below0 n v := by
  obtain ⟨cs, a, b, c⟩ := hv
  exact a.below
/- Two lists of operations; whether a script only pushes: the document's. -/
theorem OpC.at {h : Hp} {n : Nat} {X : Nat → Prop} {cs : List AVal} {os : List OpD} (ho : OpC h n X cs os) : ∀ {j : Nat} (hj : j < os.length),
    ∃ d, cs[j * 2]? = some (u8 os[j].1) ∧ cs[j * 2 + 1]? = some d ∧ Bytes h d os[j].2 ∧ Below0 n d ∧ RoomyM d ∧ ∀ i, ownId d = some i → ¬ X i := by
  induction ho with
  | nil => intro j hj; cases hj
  | cons c d l cs os hd hb hr hne t ih =>
    intro j hj
    cases j with
    | zero => exact ⟨d, rfl, rfl, hd, hb, hr, hne⟩
    | succ j =>
      obtain ⟨d', a, b, r⟩ := ih (j := j) (by simpa using hj)
      refine ⟨d', ?_, ?_, ?_⟩
      · rw [show (j + 1) * 2 = j * 2 + 1 + 1 by omega]; simpa using a
      · rw [show (j + 1) * 2 + 1 = j * 2 + 1 + 1 + 1 by omega]; simpa using b
      · simpa using r
theorem cell_rd {E : Env} {h : Hp} {n id e off : Nat} {t : TypeId} {i : TI} {cs : List AVal} {x : AVal} (hh : h id = some (.row (.l cs) e)) (hc : cs[off]? = some x) (hi : ti E t = M.pure i) (ha : aggB i.desc = false) : Rd (load E t (.ptr id off)) h n [id] x := by
  obtain ⟨hl, hx⟩ := List.getElem?_eq_some_iff.1 hc
  simp only [load, hi, bind_pure, ha, readCells, bind_assoc]
  refine Rd.bind (i2 := []) (Rd.get hh) ?_
  simp only [rowK, bind_assoc]
  refine Rd.bind (i2 := []) (Rd.ob (ble_of (by show off + 1 ≤ cs.length; omega))) ?_
  rw [Cont.sub_one (by show off < cs.length; exact hl), Cont.at_l hl, hx]
  exact Rd.pure _
theorem pair_rd {h : Hp} {n id e off : Nat} {cs : List AVal} {x y : AVal} (hh : h id = some (.row (.l cs) e)) (hc : cs[off]? = some x) (hc2 : cs[off + 1]? = some y) : Rd (load env 32 (.ptr id off)) h n [id] (.agg [x, y]) := by
  obtain ⟨hl, hx⟩ := List.getElem?_eq_some_iff.1 hc
  obtain ⟨hl2, hx2⟩ := List.getElem?_eq_some_iff.1 hc2
  have hi : ti env 32 = M.pure ty32.i := rfl
  have ha : aggB ty32.i.desc = true := rfl
  have hs : (Cont.l cs).sub off 2 = [x, y] := Cont.sub_eq (l := [x, y]) (by show off + 2 ≤ cs.length; omega) (fun j hj => by
    match j, hj with
    | 0, _ => rw [Nat.add_zero, Cont.at_l hl, hx]; rfl
    | 1, _ => rw [Cont.at_l hl2, hx2]; rfl
    | j + 2, hj => simp at hj; omega)
  simp only [load, hi, bind_pure, ha, readCells, bind_assoc]
  refine Rd.bind (i2 := []) (Rd.get hh) ?_
  simp only [rowK, bind_assoc]
  refine Rd.bind (i2 := []) (Rd.ob (ble_of (by show off + 2 ≤ cs.length; omega))) ?_
  rw [show ty32.i.size = 2 from rfl, hs]
  exact Rd.pure _
theorem own_idx {E : Env} {h : Hp} {n e sz cnt : Nat} {v : AVal} {xs : List AVal} (ho : Own h n e sz v cnt xs) {j : Nat} (hj : j < cnt) :
    ∃ id e', ownId v = some id ∧ h id = some (.row (.l xs) e') ∧ ∀ (h' : Hp) (n' : Nat) (t et : TypeId) (k : IntKind), und E t = M.pure (.slice et) → sizeOf E et = M.pure sz → Rd (indexAddr E t v (.int k (j : Nat))) h' n' [] (.ptr id (j * sz)) := by
  cases ho with
  | nil => omega
  | sl id cnt xs hid hh hl =>
    refine ⟨id, e, rfl, hh, fun h' n' t et k hu hz => ?_⟩
    simp only [indexAddr, hu, hz, bind_pure, intK, slK, idx, bind_assoc, Nat.beq_refl, Int.toNat_natCast, Nat.zero_add]
    exact Rd.bind (i2 := []) (Rd.ob (by simp; omega)) (Rd.pure _)
  | full id cnt xs e' hid hh hl =>
    refine ⟨id, e', rfl, hh, fun h' n' t et k hu hz => ?_⟩
    simp only [indexAddr, hu, hz, bind_pure, intK, slK, idx, bind_assoc, Nat.beq_refl, Int.toNat_natCast, Nat.zero_add]
    exact Rd.bind (i2 := []) (Rd.ob (by simp; omega)) (Rd.pure _)
theorem own_bLen {E : Env} {h : Hp} {n e sz cnt : Nat} {v : AVal} {xs : List AVal} (ho : Own h n e sz v cnt xs) {t et : TypeId} {ts : List TypeId} (hu : und E t = M.pure (.slice et)) : bLen E (t :: ts) v = M.pure (.int .i64 (cnt : Nat)) := by
  cases ho <;> simp only [Am.bLen, hu, bind_pure, lenOf] <;> rfl
/-- The j-th operation. -/
theorem OpsV.at {h : Hp} {n : Nat} {X : Nat → Prop} {v : AVal} {os : List OpD} (hv : OpsV h n X v os) {j : Nat} (hj : j < os.length) :
    ∃ id d e cs, ownId v = some id ∧ h id = some (.row (.l cs) e) ∧ cs[j * 2]? = some (u8 os[j].1) ∧ cs[j * 2 + 1]? = some d ∧ Bytes h d os[j].2 ∧ Below0 n d ∧ RoomyM d ∧ (∀ i, ownId d = some i → i ≠ id ∧ ¬ X i) ∧
      ∀ h' n', Rd (indexAddr env 22 v (.int .i64 (j : Nat))) h' n' [] (.ptr id (j * 2)) := by
  obtain ⟨cs, ho, hc, hx⟩ := hv
  obtain ⟨d, a, b, c, e, f, g⟩ := hc.at hj
  obtain ⟨id, e', o1, o2, o3⟩ := own_idx (E := env) ho hj
  exact ⟨id, d, e', cs, o1, o2, a, b, c, e, f, fun i hi => ⟨fun q => (g i hi) (.inl (by rw [q]; exact o1)), fun q => g i hi (.inr q)⟩, fun h' n' => o3 h' n' 22 32 .i64 rfl rfl⟩
theorem OpsV.bLen {h : Hp} {n : Nat} {X : Nat → Prop} {v : AVal} {os : List OpD} (hv : OpsV h n X v os) {ts : List TypeId} : bLen env (22 :: ts) v = M.pure (.int .i64 (os.length : Nat)) := by
  obtain ⟨cs, ho, hc, hx⟩ := hv
  exact own_bLen ho rfl
theorem take_succ_eq {α : Type} {l : List α} {i : Nat} (h : i < l.length) : l.take (i + 1) = l.take i ++ [l[i]] := by rw [List.take_succ_eq_append_getElem h]
theorem split_short : ∀ (k : Nat) (l : List UInt8), l.length ≤ k → (splitV l).1.length ≤ l.length ∧ ∀ o, o ∈ (splitV l).1 → o.2.length ≤ l.length := by
  intro k
  induction k with
  | zero =>
    intro l hl
    have : l = [] := by cases l with | nil => rfl | cons a l => simp at hl
    subst this
    rw [split_nil]
    exact ⟨Nat.le_refl _, fun o ho => by cases ho⟩
  | succ k ih =>
    intro l hl
    match l with
    | [] =>
      rw [split_nil]
      exact ⟨Nat.le_refl _, fun o ho => by cases ho⟩
    | c :: r =>
      cases hok : okV c r with
      | false =>
        rw [split_no hok]
        exact ⟨Nat.zero_le _, fun o ho => by cases ho⟩
      | true =>
        rw [split_yes hok]
        simp only [List.length_cons] at hl
        obtain ⟨a, b⟩ := ih (r.drop (szV c + daV c r)) (by rw [List.length_drop]; omega)
        rw [List.length_drop] at a
        refine ⟨by simp only [List.length_cons]; omega, fun o ho => ?_⟩
        rcases List.mem_cons.1 ho with rfl | ho
        · simp only [List.length_take, List.length_drop, List.length_cons]; omega
        · have := b o ho
          rw [List.length_drop] at this
          simp only [List.length_cons]; omega
/- Bytes that are written over. -/
theorem put_nth (xs : List AVal) (v : AVal) : ∀ (i j : Nat), i < xs.length → nth (put xs i v) j .junk = if j = i then v else nth xs j .junk := by
  induction xs with
  | nil => intro i j h; cases h
  | cons a xs ih =>
    intro i j h
    cases i with
    | zero => cases j <;> simp [put, nth]
    | succ i =>
      cases j with
      | zero => simp [put, nth]
      | succ j => simp only [put, nth, ih i j (by simpa using h)]; simp
theorem cont_at_set (c : Cont) (i j : Nat) (v : AVal) (h : i < c.size) : (c.set i v).at j = if j = i then v else c.at j := by
  cases c with
  | l xs => exact put_nth xs v i j h
  | f n g =>
    simp only [Cont.set, Cont.at]
    by_cases e : j = i
    · subst e; simp
    · rw [beq_of e, if_neg e]
theorem put_length (xs : List AVal) (v : AVal) : ∀ i, (put xs i v).length = xs.length := by
  induction xs with
  | nil => intro i; rfl
  | cons a xs ih => intro i; cases i <;> simp [put, ih]
theorem cont_size_set (c : Cont) (i : Nat) (v : AVal) : (c.set i v).size = c.size := by
  cases c with
  | l xs => exact put_length xs v i
  | f n g => rfl
theorem bytes_poke {h : Hp} {v : AVal} {l : List UInt8} (hb : Bytes h v l) {id off e : Nat} {c : Cont} (hh : h id = some (.row c e)) (ho : off < c.size) (b : UInt8) :
    ∃ l', l'.length = l.length ∧ Bytes (upd h id (some (.row (c.set off (u8 b)) e))) v l' := by
  cases hb with
  | nils => exact ⟨[], rfl, .nils⟩
  | isl f o l hf => exact ⟨l, rfl, .isl f o l hf⟩
  | sl id' o cap c' e' l hh' hs hc =>
    by_cases he : id' = id
    · subst he
      rw [hh] at hh'
      injection hh' with hh'
      injection hh' with h1 h2
      subst h1; subst h2
      by_cases hr : o ≤ off ∧ off < o + l.length
      · refine ⟨l.set (off - o) b, by simp, ?_⟩
        have := Bytes.sl (h := upd h id' (some (.row (c.set off (u8 b)) e))) id' o cap (c.set off (u8 b)) e (l.set (off - o) b) (upd_same _ _ _) (by rw [cont_size_set, List.length_set]; exact hs) (fun j hj => by
          rw [List.length_set] at hj
          rw [cont_at_set _ _ _ _ ho, List.getElem_set]
          by_cases q : o + j = off
          · rw [if_pos q, if_pos (by omega)]
          · rw [if_neg q, if_neg (by omega)]; exact hc j hj)
        rwa [List.length_set] at this
      · refine ⟨l, rfl, .sl id' o cap (c.set off (u8 b)) e l (upd_same _ _ _) (by rw [cont_size_set]; exact hs) (fun j hj => ?_)⟩
        rw [cont_at_set _ _ _ _ ho, if_neg (by omega)]; exact hc j hj
    · exact ⟨l, rfl, .sl id' o cap c' e' l (by rw [upd_ne _ _ he]; exact hh') hs hc⟩
/-- Operations whose bytes may be other ones now. -/
def Poke (N ida : Nat) (cs : List AVal) (e : Nat) (os : List OpD) (h : Hp) : Prop :=
  h ida = some (.row (.l cs) e) ∧ ∀ j (hj : j < os.length), ∃ d l', cs[j * 2 + 1]? = some d ∧ Bytes h d l' ∧ l'.length = os[j].2.length ∧ RoomyM d ∧ ∀ i, ownId d = some i → i ≠ ida ∧ N ≤ i
theorem Poke.set {N ida e : Nat} {cs : List AVal} {os : List OpD} {h : Hp} (hp : Poke N ida cs e os h) {id off e2 : Nat} {c : Cont} (hh : h id = some (.row c e2)) (ho : off < c.size) (hne : id ≠ ida) (b : UInt8) : Poke N ida cs e os (upd h id (some (.row (c.set off (u8 b)) e2))) := by
  refine ⟨by rw [upd_ne _ _ (by omega)]; exact hp.1, fun j hj => ?_⟩
  obtain ⟨d, l', a1, a2, a3, a4, a5⟩ := hp.2 j hj
  obtain ⟨l2, b1, b2⟩ := bytes_poke a2 hh ho b
  exact ⟨d, l2, a1, b2, by rw [b1, a3], a4, a5⟩
/- A script's operations are the document's, and change no script. -/
def osV (l : List UInt8) : List OpD := match (splitV l).2 with | true => (splitV l).1 | false => []
def errV (l : List UInt8) : Int := match (splitV l).2 with | true => 0 | false => 100
theorem SplitS.un {h h' : Hp} {n n' : Nat} {l : List UInt8} {v : AVal} (hs : SplitS h n l v h' n') : ∃ x, v = .tup [x, .int .i64 (errV l)] ∧ OpsV h' n' (fun j => j < n) x (osV l) ∧ Old h h' n := by
  obtain ⟨x, a, b, c, d⟩ := hs
  exact ⟨x, a, b, c⟩
/-- The j-th of some operations, as it is read. -/
structure OpAt (N : Nat) (h : Hp) (n : Nat) (v : AVal) (j : Nat) (c : UInt8) (l : List UInt8) (p p0 p1 d : AVal) (ids : List Nat) : Prop where
  ix : ∀ h' n', Rd (indexAddr env 22 v (.int .i64 (j : Nat))) h' n' [] p
  m0 : moved 0 p = M.pure p0
  m1 : moved 1 p = M.pure p1
  code : Rd (load env 5 p0) h n ids (u8 c)
  data : Rd (load env 23 p1) h n ids d
  both : Rd (load env 32 p) h n ids (.agg [u8 c, d])
  bytes : Bytes h d l
  below : Below0 N d
  room : Roomy d
structure OpsR (N : Nat) (h : Hp) (n : Nat) (v : AVal) (os : List OpD) : Prop where
  len : ∀ ts, bLen env (22 :: ts) v = M.pure (.int .i64 (os.length : Nat))
  at_ : ∀ j (hj : j < os.length), ∃ p p0 p1 d ids, OpAt N h n v j os[j].1 os[j].2 p p0 p1 d ids
theorem roomyM {d : AVal} (hr : RoomyM d) : Roomy d := by cases d <;> first | exact hr | trivial
theorem OpsV.r {h : Hp} {n : Nat} {X : Nat → Prop} {v : AVal} {os : List OpD} (hv : OpsV h n X v os) (n' : Nat) : OpsR n h n' v os where
  len := fun ts => hv.bLen
  at_ := fun j hj => by
    obtain ⟨id, d, e, cs, a1, a2, a3, a4, a5, a6, a7, a8, a9⟩ := hv.at hj
    exact ⟨_, _, _, d, [id], a9, rfl, rfl, cell_rd a2 a3 ti5 rfl, cell_rd a2 a4 ti23 rfl, pair_rd a2 a3 a4, a5, a6, roomyM a7⟩
/-- An argument of operations. -/
inductive ArgOps : AVal → List OpD → Prop
  | nils : ArgOps .nils []
  | isl (f : Nat → AVal) (os : List OpD) (hl : os.length ≤ maxLen) (hc : ∀ j (hj : j < os.length), f (j * 2) = u8 os[j].1 ∧ ArgBytes (f (j * 2 + 1)) os[j].2 ∧ os[j].2.length ≤ maxLen) : ArgOps (.isl f 2 0 os.length) os
theorem argB_id {v : AVal} {l : List UInt8} (hv : ArgBytes v l) : ownId v = none := by
  cases hi : ownId v with
  | none => rfl
  | some j => exact absurd (below_own (hv.below 0) hi) (Nat.not_lt_zero j)
theorem argB_roomy {v : AVal} {l : List UInt8} (hv : ArgBytes v l) : Roomy v := by
  have := argB_id hv
  cases v <;> first | trivial | cases this
theorem ArgOps.r {v : AVal} {os : List OpD} (hv : ArgOps v os) (N : Nat) (h : Hp) (n : Nat) : OpsR N h n v os := by
  cases hv with
  | nils => exact ⟨fun ts => rfl, fun j hj => by cases hj⟩
  | isl f os hl hc =>
    refine ⟨fun ts => rfl, fun j hj => ?_⟩
    obtain ⟨a, b, c⟩ := hc j hj
    have hi : ti env 32 = M.pure ty32.i := rfl
    have ha : aggB ty32.i.desc = true := rfl
    refine ⟨.ip f (0 + os.length * 2) (0 + j * 2), _, _, f (j * 2 + 1), [], fun h' n' => ?_, rfl, rfl, ?_, ?_, ?_, b.bytes h, b.below N, argB_roomy b⟩
    · have hu : und env 22 = M.pure (.slice 32) := rfl
      have hz : sizeOf env 32 = M.pure 2 := rfl
      simp only [indexAddr, hu, hz, bind_pure, intK, slK, idx, bind_assoc, Nat.beq_refl, Int.toNat_natCast]
      exact Rd.bind (i2 := []) (Rd.ob (by simp; omega)) (Rd.pure _)
    · have : ti env 5 = M.pure ty5.i := rfl
      simp only [load, this, bind_pure, show aggB ty5.i.desc = false from rfl, readCells, bind_assoc]
      refine Rd.bind (i2 := []) (Rd.ob (ble_of (by show 0 + j * 2 + 0 + 1 ≤ _; omega))) ?_
      show Rd ((oneOf [f (0 + j * 2 + 0 + 0)])) h n [] _
      simp only [Nat.zero_add, Nat.add_zero, a]
      exact Rd.pure _
    · have : ti env 23 = M.pure ty23.i := rfl
      simp only [load, this, bind_pure, show aggB ty23.i.desc = false from rfl, readCells, bind_assoc]
      refine Rd.bind (i2 := []) (Rd.ob (ble_of (by show 0 + j * 2 + 1 + 1 ≤ _; omega))) ?_
      show Rd ((oneOf [f (0 + j * 2 + 1 + 0)])) h n [] _
      simp only [Nat.zero_add, Nat.add_zero]
      exact Rd.pure _
    · simp only [load, hi, bind_pure, ha, readCells, bind_assoc]
      refine Rd.bind (i2 := []) (Rd.ob (ble_of (by show 0 + j * 2 + 2 ≤ _; omega))) ?_
      show Rd (M.pure (AVal.agg [f (0 + j * 2 + 0), f (0 + j * 2 + 1)])) h n [] _
      simp only [Nat.zero_add, Nat.add_zero, a]
      exact Rd.pure _
theorem ArgOps.short {v : AVal} {os : List OpD} (hv : ArgOps v os) : os.length ≤ maxLen ∧ ∀ o, o ∈ os → o.2.length ≤ maxLen := by
  cases hv with
  | nils => exact ⟨Nat.zero_le _, fun o ho => by cases ho⟩
  | isl f os hl hc =>
    refine ⟨hl, fun o ho => ?_⟩
    obtain ⟨j, hj, rfl⟩ := List.getElem_of_mem ho
    exact (hc j hj).2.2
theorem arg_ops {v : AVal} (ha : Arg Try.prog 22 [v]) : ∃ os, ArgOps v os := by
  have hc : Try.prog.cellsOf 32 = 2 := by kernel_rfl
  have hc5 : Try.prog.cellsOf 5 = 1 := by kernel_rfl
  have hc23 : Try.prog.cellsOf 23 = 1 := by kernel_rfl
  rcases ha.slice_inv Try.underlying22 (by omega) with h | ⟨f, len, h, hl, hx⟩
  · injection h with h; subst h; exact ⟨[], .nils⟩
  · injection h with h
    subst h
    rw [hc] at hx ⊢
    have each : ∀ i, ∃ o : OpD, i < len → f (i * 2) = u8 o.1 ∧ ArgBytes (f (i * 2 + 1)) o.2 ∧ o.2.length ≤ maxLen := fun i => by
      by_cases hi : i < len
      · obtain ⟨_, q⟩ := (hx i hi).struct_inv Try.underlying32
        have q0 : Arg Try.prog 5 (((cut f (i * 2) 2).drop 0).take (Try.prog.cellsOf 5)) := q 0 _ rfl
        have q1 : Arg Try.prog 23 (((cut f (i * 2) 2).drop 1).take (Try.prog.cellsOf 23)) := q 1 _ rfl
        rw [hc5] at q0
        rw [hc23] at q1
        obtain ⟨z, e1, hw⟩ := Arg.int_inv Try.underlying5 q0
        obtain ⟨l, hb, hbl⟩ := arg_bytes (v := f (i * 2 + 1)) Try.underlying23 Try.underlying5 hc5 q1
        injection e1 with e1
        have e1 : f (i * 2) = .int .u8 z := e1
        exact ⟨(byteOf z, l), fun _ => ⟨by rw [e1, u8, byteOf_eq hw], hb, hbl⟩⟩
      · exact ⟨(0, []), fun q => absurd q hi⟩
    obtain ⟨b, hb⟩ := Classical.axiomOfChoice each
    have := ArgOps.isl f ((List.range len).map b) (by simpa using hl) (fun j hj => by
      simp only [List.length_map, List.length_range] at hj
      simp only [List.getElem_map, List.getElem_range]
      exact hb j hj)
    simp only [List.length_map, List.length_range] at this
    exact ⟨_, this⟩
/-- .. whatever is made besides. -/
def OpsK (N : Nat) (h : Hp) (v : AVal) (os : List OpD) : Prop := ∀ h' n', N ≤ n' → Old h h' N → OpsR N h' n' v os
theorem OpsR.mono {N M : Nat} {h : Hp} {n : Nat} {v : AVal} {os : List OpD} (hr : OpsR N h n v os) (hN : N ≤ M) : OpsR M h n v os where
  len := hr.len
  at_ := fun j hj => by
    obtain ⟨p, p0, p1, d, ids, A⟩ := hr.at_ j hj
    exact ⟨p, p0, p1, d, ids, A.ix, A.m0, A.m1, A.code, A.data, A.both, A.bytes, A.below.mono hN, A.room⟩
theorem OpsK.mono {N M : Nat} {h h' : Hp} {v : AVal} {os : List OpD} (hk : OpsK N h v os) (hN : N ≤ M) (ho : Old h h' N) : OpsK M h' v os := fun h2 n2 h1 ho2 => (hk h2 n2 (by omega) (ho.trans ho2 hN)).mono hN
theorem OpsK.r {N : Nat} {h : Hp} {v : AVal} {os : List OpD} (hk : OpsK N h v os)   : OpsR N h N v os := hk h N (Nat.le_refl _) (Old.refl _ _)
theorem ArgOps.k {v : AVal} {os : List OpD} (hv : ArgOps v os) (N : Nat) (h : Hp) : OpsK N h v os := fun h' n' _ _ => hv.r N h' n'
theorem OpsV.k {h : Hp} {n : Nat} {X : Nat → Prop} {v : AVal} {os : List OpD} (hv : OpsV h n X v os) : OpsK n h v os := fun h' n' hn ho => (hv.keep (Nat.le_refl _) fun j hj _ => ho j hj).r n'
theorem f34 (a b : AVal) (l m : List UInt8) (h : Hp) (n : Nat) (ha : Bytes h a l) (hb : Bytes h b m) :
    Wp (callI env (evalW env) 34 [a, b]) h n fun v' h' n' => v' = .bool (decide (l = m)) ∧ h' = h ∧ n' = n := by
  refine wp_callI ff34 fi34 ?_
  simp only [fu34, Try.f34, Option.getD_some, List.replicate, core1, cont_block_any, opg_un, u8, tyr, fgr, hkr, execOp, opd, opds, opt, ofValue, ofArr, ofList, ops2, putT, put, nth, forgetL, doCall, callV_func, builtin, one1, two2, some1, foldM2, min2, max2, blr, bCopy, intB, und, sizeOf, zeroOf, lenOf, bor, binInt, binOther, shiftB, shiftOp, intOp, wrapI, strOp, strK, intK, slK, aggK, unOp, doPick, branch, idx, readCells, cellsOf, oneOf, aggB, cel, alloc, doAlloc, newRow, nilCheck, extract, getO, ended, resultOf, oneOrTup, rowK, loopK, moved, fieldAddr, field, part, index, sameSz, equalTop, equal, nilFn, nilPtr, nilSl1, nilSl2, nilSl3, boolOf, List.getElem?_cons_succ, List.getElem?_cons_zero, List.append_eq, List.cons_append, List.nil_append, List.append_nil, List.length_cons, List.length_nil, Nat.reduceAdd, Nat.reduceSub, Nat.beq, Option.bind_some, nc0, nc1, Int.cast_ofNat_Int, int_beq, int_bne, str_beq, ↓reduceIte, Int.reduceEq, Int.reduceLT, Int.reduceLE, Int.reduceNe, Int.reduceAdd, Int.reduceSub, Int.reduceMul, Int.reduceNeg, Int.reduceGT, Int.reduceGE, ge_iff_le, gt_iff_lt, not_true_eq_false, not_false_eq_true, decide_not, decide_true, decide_false, Bool.not_true, Bool.not_false, Bool.and_true, Bool.true_and, Bool.and_false, Bool.false_and, Bool.or_true, Bool.true_or, Bool.or_false, Bool.false_or, and_true, true_and, and_self, Nat.zero_add, Nat.add_zero, Int.toNat_zero, Nat.zero_mul, wp_pure, beq_self_eq_true, bne_self_eq_false, reduceCtorEq]
  rw [opv_rd (ha.str_rd t23 t9 t5)]
  simp only [core1, cont_block_any, opg_un, u8, tyr, fgr, hkr, execOp, opd, opds, opt, ofValue, ofArr, ofList, ops2, putT, put, nth, forgetL, doCall, callV_func, builtin, one1, two2, some1, foldM2, min2, max2, blr, bCopy, intB, und, sizeOf, zeroOf, lenOf, bor, binInt, binOther, shiftB, shiftOp, intOp, wrapI, strOp, strK, intK, slK, aggK, unOp, doPick, branch, idx, readCells, cellsOf, oneOf, aggB, cel, alloc, doAlloc, newRow, nilCheck, extract, getO, ended, resultOf, oneOrTup, rowK, loopK, moved, fieldAddr, field, part, index, sameSz, equalTop, equal, nilFn, nilPtr, nilSl1, nilSl2, nilSl3, boolOf, List.getElem?_cons_succ, List.getElem?_cons_zero, List.append_eq, List.cons_append, List.nil_append, List.append_nil, List.length_cons, List.length_nil, Nat.reduceAdd, Nat.reduceSub, Nat.beq, Option.bind_some, nc0, nc1, Int.cast_ofNat_Int, int_beq, int_bne, str_beq, ↓reduceIte, Int.reduceEq, Int.reduceLT, Int.reduceLE, Int.reduceNe, Int.reduceAdd, Int.reduceSub, Int.reduceMul, Int.reduceNeg, Int.reduceGT, Int.reduceGE, ge_iff_le, gt_iff_lt, not_true_eq_false, not_false_eq_true, decide_not, decide_true, decide_false, Bool.not_true, Bool.not_false, Bool.and_true, Bool.true_and, Bool.and_false, Bool.false_and, Bool.or_true, Bool.true_or, Bool.or_false, Bool.false_or, and_true, true_and, and_self, Nat.zero_add, Nat.add_zero, Int.toNat_zero, Nat.zero_mul, wp_pure, beq_self_eq_true, bne_self_eq_false, reduceCtorEq]
  rw [opv_rd (hb.str_rd t23 t9 t5)]
  simp only [core1, cont_block_any, opg_un, u8, tyr, fgr, hkr, execOp, opd, opds, opt, ofValue, ofArr, ofList, ops2, putT, put, nth, forgetL, doCall, callV_func, builtin, one1, two2, some1, foldM2, min2, max2, blr, bCopy, intB, und, sizeOf, zeroOf, lenOf, bor, binInt, binOther, shiftB, shiftOp, intOp, wrapI, strOp, strK, intK, slK, aggK, unOp, doPick, branch, idx, readCells, cellsOf, oneOf, aggB, cel, alloc, doAlloc, newRow, nilCheck, extract, getO, ended, resultOf, oneOrTup, rowK, loopK, moved, fieldAddr, field, part, index, sameSz, equalTop, equal, nilFn, nilPtr, nilSl1, nilSl2, nilSl3, boolOf, List.getElem?_cons_succ, List.getElem?_cons_zero, List.append_eq, List.cons_append, List.nil_append, List.append_nil, List.length_cons, List.length_nil, Nat.reduceAdd, Nat.reduceSub, Nat.beq, Option.bind_some, nc0, nc1, Int.cast_ofNat_Int, int_beq, int_bne, str_beq, ↓reduceIte, Int.reduceEq, Int.reduceLT, Int.reduceLE, Int.reduceNe, Int.reduceAdd, Int.reduceSub, Int.reduceMul, Int.reduceNeg, Int.reduceGT, Int.reduceGE, ge_iff_le, gt_iff_lt, not_true_eq_false, not_false_eq_true, decide_not, decide_true, decide_false, Bool.not_true, Bool.not_false, Bool.and_true, Bool.true_and, Bool.and_false, Bool.false_and, Bool.or_true, Bool.true_or, Bool.or_false, Bool.false_or, and_true, true_and, and_self, Nat.zero_add, Nat.add_zero, Int.toNat_zero, Nat.zero_mul, wp_pure, beq_self_eq_true, bne_self_eq_false, reduceCtorEq]
theorem f33 (c c2 : UInt8) (a b : AVal) (l m : List UInt8) (h : Hp) (n : Nat) (ha : Bytes h a l) (hb : Bytes h b m) (hab : Below0 n a) (hbb : Below0 n b) :
    Wp (callI env (evalW env) 33 [opA c a, opA c2 b]) h n fun v' h' n' => v' = .bool (decide ((c, l) = (c2, m))) ∧ Old h h' n := by
  refine wp_callI ff33 fi33 ?_
  unfold opA
  have ha2 : ∀ x y, Bytes (upd (upd h n x) (n + 1) y) a l := fun x y => ha.keep fun j hj => by have := below_own hab hj; rw [upd_ne _ _ (by omega), upd_ne _ _ (by omega)]
  have hb2 : ∀ x y, Bytes (upd (upd h n x) (n + 1) y) b m := fun x y => hb.keep fun j hj => by have := below_own hbb hj; rw [upd_ne _ _ (by omega), upd_ne _ _ (by omega)]
  have ho : ∀ x y, Old h (upd (upd h n x) (n + 1) y) n := fun x y => ((Old.refl _ _).upd (Nat.le_refl _)).upd (by omega)
  by_cases hc : c = c2
  · subst hc
    simp (disch := omega) only [fu33, Try.f33, Option.getD_some, List.replicate, core1, cont_block_any, opg_un, u8, tyr, fgr, hkr, execOp, opd, opds, opt, ofValue, ofArr, ofList, ops2, putT, put, nth, forgetL, doCall, callV_func, builtin, one1, two2, some1, foldM2, min2, max2, blr, bCopy, intB, und, sizeOf, zeroOf, lenOf, bor, binInt, binOther, shiftB, shiftOp, intOp, wrapI, strOp, strK, intK, slK, aggK, unOp, doPick, branch, idx, readCells, cellsOf, oneOf, aggB, cel, alloc, doAlloc, newRow, nilCheck, extract, getO, ended, resultOf, oneOrTup, rowK, loopK, moved, fieldAddr, field, part, index, sameSz, equalTop, equal, nilFn, nilPtr, nilSl1, nilSl2, nilSl3, boolOf, List.getElem?_cons_succ, List.getElem?_cons_zero, List.append_eq, List.cons_append, List.nil_append, List.append_nil, List.length_cons, List.length_nil, Nat.reduceAdd, Nat.reduceSub, Nat.beq, Option.bind_some, nc0, nc1, Int.cast_ofNat_Int, int_beq, int_bne, str_beq, ↓reduceIte, Int.reduceEq, Int.reduceLT, Int.reduceLE, Int.reduceNe, Int.reduceAdd, Int.reduceSub, Int.reduceMul, Int.reduceNeg, Int.reduceGT, Int.reduceGE, ge_iff_le, gt_iff_lt, not_true_eq_false, not_false_eq_true, decide_not, decide_true, decide_false, Bool.not_true, Bool.not_false, Bool.and_true, Bool.true_and, Bool.and_false, Bool.false_and, Bool.or_true, Bool.true_or, Bool.or_false, Bool.false_or, and_true, true_and, and_self, Nat.zero_add, Nat.add_zero, Int.toNat_zero, Nat.zero_mul, wp_pure, beq_self_eq_true, bne_self_eq_false, reduceCtorEq, memr, buildSlice, build, reps, fill, sizesOf, List.take_succ_cons, List.take_zero, List.drop_succ_cons, List.drop_zero, Nat.reduceMul, Nat.ble, Nat.reduceLeDiff, Nat.mul_one, Nat.one_mul, writeCells, setAll, Cont.size, Cont.set, Cont.at, Cont.sub, upd_same, upd_ne, List.all_cons, List.all_nil, Option.some.injEq, exists_eq_left', Int.reduceToNat, ne_eq, and_true, true_and, List.length_cons, List.length_nil, Nat.mul_zero, Nat.zero_mul]
    refine opv_call (f34 a b l m _ _ (ha2 _ _) (hb2 _ _)) fun v1 h1 n1 hn1 ⟨e1, e2, e3⟩ => ?_
    subst e1; subst e2; subst e3
    simp only [core1, cont_block_any, opg_un, u8, tyr, fgr, hkr, execOp, opd, opds, opt, ofValue, ofArr, ofList, ops2, putT, put, nth, forgetL, doCall, callV_func, builtin, one1, two2, some1, foldM2, min2, max2, blr, bCopy, intB, und, sizeOf, zeroOf, lenOf, bor, binInt, binOther, shiftB, shiftOp, intOp, wrapI, strOp, strK, intK, slK, aggK, unOp, doPick, branch, idx, readCells, cellsOf, oneOf, aggB, cel, alloc, doAlloc, newRow, nilCheck, extract, getO, ended, resultOf, oneOrTup, rowK, loopK, moved, fieldAddr, field, part, index, sameSz, equalTop, equal, nilFn, nilPtr, nilSl1, nilSl2, nilSl3, boolOf, List.getElem?_cons_succ, List.getElem?_cons_zero, List.append_eq, List.cons_append, List.nil_append, List.append_nil, List.length_cons, List.length_nil, Nat.reduceAdd, Nat.reduceSub, Nat.beq, Option.bind_some, nc0, nc1, Int.cast_ofNat_Int, int_beq, int_bne, str_beq, ↓reduceIte, Int.reduceEq, Int.reduceLT, Int.reduceLE, Int.reduceNe, Int.reduceAdd, Int.reduceSub, Int.reduceMul, Int.reduceNeg, Int.reduceGT, Int.reduceGE, ge_iff_le, gt_iff_lt, not_true_eq_false, not_false_eq_true, decide_not, decide_true, decide_false, Bool.not_true, Bool.not_false, Bool.and_true, Bool.true_and, Bool.and_false, Bool.false_and, Bool.or_true, Bool.true_or, Bool.or_false, Bool.false_or, and_true, true_and, and_self, Nat.zero_add, Nat.add_zero, Int.toNat_zero, Nat.zero_mul, wp_pure, beq_self_eq_true, bne_self_eq_false, reduceCtorEq]
    exact ⟨by simp, ho _ _⟩
  · have hci : ¬ ((c.toNat : Nat) : Int) = ((c2.toNat : Nat) : Int) := fun e => hc (UInt8.toNat_inj.1 (by omega))
    simp (disch := omega) only [fu33, Try.f33, Option.getD_some, List.replicate, core1, cont_block_any, opg_un, u8, tyr, fgr, hkr, execOp, opd, opds, opt, ofValue, ofArr, ofList, ops2, putT, put, nth, forgetL, doCall, callV_func, builtin, one1, two2, some1, foldM2, min2, max2, blr, bCopy, intB, und, sizeOf, zeroOf, lenOf, bor, binInt, binOther, shiftB, shiftOp, intOp, wrapI, strOp, strK, intK, slK, aggK, unOp, doPick, branch, idx, readCells, cellsOf, oneOf, aggB, cel, alloc, doAlloc, newRow, nilCheck, extract, getO, ended, resultOf, oneOrTup, rowK, loopK, moved, fieldAddr, field, part, index, sameSz, equalTop, equal, nilFn, nilPtr, nilSl1, nilSl2, nilSl3, boolOf, List.getElem?_cons_succ, List.getElem?_cons_zero, List.append_eq, List.cons_append, List.nil_append, List.append_nil, List.length_cons, List.length_nil, Nat.reduceAdd, Nat.reduceSub, Nat.beq, Option.bind_some, nc0, nc1, Int.cast_ofNat_Int, int_beq, int_bne, str_beq, ↓reduceIte, Int.reduceEq, Int.reduceLT, Int.reduceLE, Int.reduceNe, Int.reduceAdd, Int.reduceSub, Int.reduceMul, Int.reduceNeg, Int.reduceGT, Int.reduceGE, ge_iff_le, gt_iff_lt, not_true_eq_false, not_false_eq_true, decide_not, decide_true, decide_false, Bool.not_true, Bool.not_false, Bool.and_true, Bool.true_and, Bool.and_false, Bool.false_and, Bool.or_true, Bool.true_or, Bool.or_false, Bool.false_or, and_true, true_and, and_self, Nat.zero_add, Nat.add_zero, Int.toNat_zero, Nat.zero_mul, wp_pure, beq_self_eq_true, bne_self_eq_false, reduceCtorEq, memr, buildSlice, build, reps, fill, sizesOf, List.take_succ_cons, List.take_zero, List.drop_succ_cons, List.drop_zero, Nat.reduceMul, Nat.ble, Nat.reduceLeDiff, Nat.mul_one, Nat.one_mul, writeCells, setAll, Cont.size, Cont.set, Cont.at, Cont.sub, upd_same, upd_ne, List.all_cons, List.all_nil, Option.some.injEq, exists_eq_left', Int.reduceToNat, ne_eq, and_true, true_and, List.length_cons, List.length_nil, Nat.mul_zero, Nat.zero_mul, hci]
    exact ⟨by simp [hc], ho _ _⟩
/- Whether lists are great, and the same: the program's. -/
theorem maxLen_eq : maxLen = 9223372036854775807 := rfl
theorem loop9 (Q : Post0) (ks : List Kf) (a : AVal) (os : List OpD) (h : Hp) (n : Nat) {N : Nat} (ha : OpsR N h n a os) (hl : os.length ≤ maxLen)
    (hq : ∀ (z : Int) (x2 x4 x6 x7 x8 : AVal), Kont env 9 none Q ks (.exit 0) (a :: AVal.junk :: x2 :: .int .i64 z :: x4 :: AVal.junk :: x6 :: x7 :: x8 :: AVal.junk :: AVal.junk :: AVal.junk :: AVal.junk :: AVal.junk :: AVal.junk :: AVal.junk :: AVal.junk :: AVal.junk :: AVal.junk :: AVal.junk :: AVal.junk :: AVal.junk :: AVal.junk :: AVal.junk :: AVal.junk :: AVal.junk :: []) h n) :
    ∀ (k i : Nat) (z : Int) (x2 x4 x8 : AVal), i + k = os.length →
    Run env 9 none Q (.loop lp9_0) ks (a :: AVal.junk :: x2 :: .int .i64 z :: x4 :: AVal.junk :: .int .i64 (os.length : Nat) :: .int .i64 (i : Nat) :: x8 :: AVal.junk :: AVal.junk :: AVal.junk :: AVal.junk :: AVal.junk :: AVal.junk :: AVal.junk :: AVal.junk :: AVal.junk :: AVal.junk :: AVal.junk :: AVal.junk :: AVal.junk :: AVal.junk :: AVal.junk :: AVal.junk :: AVal.junk :: []) h n := by
  rw [maxLen_eq] at hl
  intro k
  induction k with
  | zero =>
    intro i z x2 x4 x8 hi
    have : i = os.length := by omega
    subst this
    have hc : ¬ ((os.length : Nat) : Int) < ((os.length : Nat) : Int) := by omega
    rw [run_loop]
    simp only [lp9_0, loopsOf, Try.f9, Option.getD_some, core1, cont_block_any, opg_un, u8, tyr, fgr, hkr, execOp, opd, opds, opt, ofValue, ofArr, ofList, ops2, putT, put, nth, forgetL, doCall, callV_func, builtin, one1, two2, some1, foldM2, min2, max2, blr, bCopy, intB, und, sizeOf, zeroOf, lenOf, bor, binInt, binOther, shiftB, shiftOp, intOp, wrapI, strOp, strK, intK, slK, aggK, unOp, doPick, branch, idx, readCells, cellsOf, oneOf, aggB, cel, alloc, doAlloc, newRow, nilCheck, extract, getO, ended, resultOf, oneOrTup, rowK, loopK, moved, fieldAddr, field, part, index, sameSz, equalTop, equal, nilFn, nilPtr, nilSl1, nilSl2, nilSl3, boolOf, List.getElem?_cons_succ, List.getElem?_cons_zero, List.append_eq, List.cons_append, List.nil_append, List.append_nil, List.length_cons, List.length_nil, Nat.reduceAdd, Nat.reduceSub, Nat.beq, Option.bind_some, nc0, nc1, Int.cast_ofNat_Int, int_beq, int_bne, str_beq, ↓reduceIte, Int.reduceEq, Int.reduceLT, Int.reduceLE, Int.reduceNe, Int.reduceAdd, Int.reduceSub, Int.reduceMul, Int.reduceNeg, Int.reduceGT, Int.reduceGE, ge_iff_le, gt_iff_lt, not_true_eq_false, not_false_eq_true, decide_not, decide_true, decide_false, Bool.not_true, Bool.not_false, Bool.and_true, Bool.true_and, Bool.and_false, Bool.false_and, Bool.or_true, Bool.true_or, Bool.or_false, Bool.false_or, and_true, true_and, and_self, Nat.zero_add, Nat.add_zero, Int.toNat_zero, Nat.zero_mul, wp_pure, beq_self_eq_true, bne_self_eq_false, reduceCtorEq, List.getD_cons_zero, List.getD_cons_succ, hc]
    exact hq z _ _ _ _ _
  | succ k ih =>
    intro i z x2 x4 x8 hi
    have h1 : i < os.length := by omega
    have hc : ((i : Nat) : Int) < ((os.length : Nat) : Int) := by omega
    obtain ⟨p, p0, p1, da, ids, A⟩ := ha.at_ i h1
    have am1 := A.m1
    have hw : IntKind.i64.wrap (((i : Nat) : Int) + 1) = ((i + 1 : Nat) : Int) := by rw [w64 (by omega) (by omega)]; omega
    rw [run_loop]
    simp only [lp9_0, loopsOf, Try.f9, Option.getD_some, core1, cont_block_any, opg_un, u8, tyr, fgr, hkr, execOp, opd, opds, opt, ofValue, ofArr, ofList, ops2, putT, put, nth, forgetL, doCall, callV_func, builtin, one1, two2, some1, foldM2, min2, max2, blr, bCopy, intB, und, sizeOf, zeroOf, lenOf, bor, binInt, binOther, shiftB, shiftOp, intOp, wrapI, strOp, strK, intK, slK, aggK, unOp, doPick, branch, idx, readCells, cellsOf, oneOf, aggB, cel, alloc, doAlloc, newRow, nilCheck, extract, getO, ended, resultOf, oneOrTup, rowK, loopK, moved, fieldAddr, field, part, index, sameSz, equalTop, equal, nilFn, nilPtr, nilSl1, nilSl2, nilSl3, boolOf, List.getElem?_cons_succ, List.getElem?_cons_zero, List.append_eq, List.cons_append, List.nil_append, List.append_nil, List.length_cons, List.length_nil, Nat.reduceAdd, Nat.reduceSub, Nat.beq, Option.bind_some, nc0, nc1, Int.cast_ofNat_Int, int_beq, int_bne, str_beq, ↓reduceIte, Int.reduceEq, Int.reduceLT, Int.reduceLE, Int.reduceNe, Int.reduceAdd, Int.reduceSub, Int.reduceMul, Int.reduceNeg, Int.reduceGT, Int.reduceGE, ge_iff_le, gt_iff_lt, not_true_eq_false, not_false_eq_true, decide_not, decide_true, decide_false, Bool.not_true, Bool.not_false, Bool.and_true, Bool.true_and, Bool.and_false, Bool.false_and, Bool.or_true, Bool.true_or, Bool.or_false, Bool.false_or, and_true, true_and, and_self, Nat.zero_add, Nat.add_zero, Int.toNat_zero, Nat.zero_mul, wp_pure, beq_self_eq_true, bne_self_eq_false, reduceCtorEq, List.getD_cons_zero, List.getD_cons_succ, hc]
    rw [opv_rd (A.ix _ _)]
    simp only [core1, cont_block_any, opg_un, u8, tyr, fgr, hkr, execOp, opd, opds, opt, ofValue, ofArr, ofList, ops2, putT, put, nth, forgetL, doCall, callV_func, builtin, one1, two2, some1, foldM2, min2, max2, blr, bCopy, intB, und, sizeOf, zeroOf, lenOf, bor, binInt, binOther, shiftB, shiftOp, intOp, wrapI, strOp, strK, intK, slK, aggK, unOp, doPick, branch, idx, readCells, cellsOf, oneOf, aggB, cel, alloc, doAlloc, newRow, nilCheck, extract, getO, ended, resultOf, oneOrTup, rowK, loopK, fieldAddr, field, part, index, sameSz, equalTop, equal, nilFn, nilPtr, nilSl1, nilSl2, nilSl3, boolOf, List.getElem?_cons_succ, List.getElem?_cons_zero, List.append_eq, List.cons_append, List.nil_append, List.append_nil, List.length_cons, List.length_nil, Nat.reduceAdd, Nat.reduceSub, Nat.beq, Option.bind_some, nc0, nc1, Int.cast_ofNat_Int, int_beq, int_bne, str_beq, ↓reduceIte, Int.reduceEq, Int.reduceLT, Int.reduceLE, Int.reduceNe, Int.reduceAdd, Int.reduceSub, Int.reduceMul, Int.reduceNeg, Int.reduceGT, Int.reduceGE, ge_iff_le, gt_iff_lt, not_true_eq_false, not_false_eq_true, decide_not, decide_true, decide_false, Bool.not_true, Bool.not_false, Bool.and_true, Bool.true_and, Bool.and_false, Bool.false_and, Bool.or_true, Bool.true_or, Bool.or_false, Bool.false_or, and_true, true_and, and_self, Nat.zero_add, Nat.add_zero, Int.toNat_zero, Nat.zero_mul, wp_pure, beq_self_eq_true, bne_self_eq_false, reduceCtorEq, buildSlice, build, reps, fill, sizesOf, List.take_succ_cons, List.take_zero, List.drop_succ_cons, List.drop_zero, Nat.reduceMul, Nat.ble, Nat.reduceLeDiff, Nat.mul_one, Nat.one_mul, writeCells, setAll, Cont.size, Cont.set, Cont.at, Cont.sub, upd_same, upd_ne, List.all_cons, List.all_nil, Option.some.injEq, exists_eq_left', Int.reduceToNat, ne_eq, and_true, true_and, List.length_cons, List.length_nil, Nat.mul_zero, Nat.zero_mul, am1]
    rw [opv_rd A.data]
    simp only [core1, cont_block_any, opg_un, u8, tyr, fgr, hkr, execOp, opd, opds, opt, ofValue, ofArr, ofList, ops2, putT, put, nth, forgetL, doCall, callV_func, builtin, one1, two2, some1, foldM2, min2, max2, blr, bCopy, intB, und, sizeOf, zeroOf, lenOf, bor, binInt, binOther, shiftB, shiftOp, intOp, wrapI, strOp, strK, intK, slK, aggK, unOp, doPick, branch, idx, readCells, cellsOf, oneOf, aggB, cel, alloc, doAlloc, newRow, nilCheck, extract, getO, ended, resultOf, oneOrTup, rowK, loopK, fieldAddr, field, part, index, sameSz, equalTop, equal, nilFn, nilPtr, nilSl1, nilSl2, nilSl3, boolOf, List.getElem?_cons_succ, List.getElem?_cons_zero, List.append_eq, List.cons_append, List.nil_append, List.append_nil, List.length_cons, List.length_nil, Nat.reduceAdd, Nat.reduceSub, Nat.beq, Option.bind_some, nc0, nc1, Int.cast_ofNat_Int, int_beq, int_bne, str_beq, ↓reduceIte, Int.reduceEq, Int.reduceLT, Int.reduceLE, Int.reduceNe, Int.reduceAdd, Int.reduceSub, Int.reduceMul, Int.reduceNeg, Int.reduceGT, Int.reduceGE, ge_iff_le, gt_iff_lt, not_true_eq_false, not_false_eq_true, decide_not, decide_true, decide_false, Bool.not_true, Bool.not_false, Bool.and_true, Bool.true_and, Bool.and_false, Bool.false_and, Bool.or_true, Bool.true_or, Bool.or_false, Bool.false_or, and_true, true_and, and_self, Nat.zero_add, Nat.add_zero, Int.toNat_zero, Nat.zero_mul, wp_pure, beq_self_eq_true, bne_self_eq_false, reduceCtorEq, buildSlice, build, reps, fill, sizesOf, List.take_succ_cons, List.take_zero, List.drop_succ_cons, List.drop_zero, Nat.reduceMul, Nat.ble, Nat.reduceLeDiff, Nat.mul_one, Nat.one_mul, writeCells, setAll, Cont.size, Cont.set, Cont.at, Cont.sub, upd_same, upd_ne, List.all_cons, List.all_nil, Option.some.injEq, exists_eq_left', Int.reduceToNat, ne_eq, and_true, true_and, List.length_cons, List.length_nil, Nat.mul_zero, Nat.zero_mul, A.bytes.bLen t23, hw]
    exact ih (i + 1) _ _ _ _ (by omega)
theorem f9 (a : AVal) (os : List OpD) (h : Hp) (n : Nat) {N : Nat} (ha : OpsR N h n a os) (hl : os.length ≤ maxLen) :
    Wp (callI env (evalW env) 9 [a]) h n fun v' h' n' => (∃ b, v' = .bool b ∧ (b = false → os.length ≤ 100)) ∧ h' = h ∧ n' = n := by
  refine wp_callI ff9 fi9 ?_
  simp only [fu9, Try.f9, Option.getD_some, List.replicate, core1, cont_block_any, opg_un, u8, tyr, fgr, hkr, execOp, opd, opds, opt, ofValue, ofArr, ofList, ops2, putT, put, nth, forgetL, doCall, callV_func, builtin, one1, two2, some1, foldM2, min2, max2, blr, bCopy, intB, und, sizeOf, zeroOf, lenOf, bor, binInt, binOther, shiftB, shiftOp, intOp, wrapI, strOp, strK, intK, slK, aggK, unOp, doPick, branch, idx, readCells, cellsOf, oneOf, aggB, cel, alloc, doAlloc, newRow, nilCheck, extract, getO, ended, resultOf, oneOrTup, rowK, loopK, moved, fieldAddr, field, part, index, sameSz, equalTop, equal, nilFn, nilPtr, nilSl1, nilSl2, nilSl3, boolOf, List.getElem?_cons_succ, List.getElem?_cons_zero, List.append_eq, List.cons_append, List.nil_append, List.append_nil, List.length_cons, List.length_nil, Nat.reduceAdd, Nat.reduceSub, Nat.beq, Option.bind_some, nc0, nc1, Int.cast_ofNat_Int, int_beq, int_bne, str_beq, ↓reduceIte, Int.reduceEq, Int.reduceLT, Int.reduceLE, Int.reduceNe, Int.reduceAdd, Int.reduceSub, Int.reduceMul, Int.reduceNeg, Int.reduceGT, Int.reduceGE, ge_iff_le, gt_iff_lt, not_true_eq_false, not_false_eq_true, decide_not, decide_true, decide_false, Bool.not_true, Bool.not_false, Bool.and_true, Bool.true_and, Bool.and_false, Bool.false_and, Bool.or_true, Bool.true_or, Bool.or_false, Bool.false_or, and_true, true_and, and_self, Nat.zero_add, Nat.add_zero, Int.toNat_zero, Nat.zero_mul, wp_pure, beq_self_eq_true, bne_self_eq_false, reduceCtorEq, ha.len]
  refine loop9 _ _ a os h n ha hl ?_ os.length 0 0 _ _ _ (by omega)
  intro z x2 x4 x6 x7 x8
  by_cases g : 100 < ((os.length : Nat) : Int)
  · simp only [core1, cont_block_any, opg_un, u8, tyr, fgr, hkr, execOp, opd, opds, opt, ofValue, ofArr, ofList, ops2, putT, put, nth, forgetL, doCall, callV_func, builtin, one1, two2, some1, foldM2, min2, max2, blr, bCopy, intB, und, sizeOf, zeroOf, lenOf, bor, binInt, binOther, shiftB, shiftOp, intOp, wrapI, strOp, strK, intK, slK, aggK, unOp, doPick, branch, idx, readCells, cellsOf, oneOf, aggB, cel, alloc, doAlloc, newRow, nilCheck, extract, getO, ended, resultOf, oneOrTup, rowK, loopK, moved, fieldAddr, field, part, index, sameSz, equalTop, equal, nilFn, nilPtr, nilSl1, nilSl2, nilSl3, boolOf, List.getElem?_cons_succ, List.getElem?_cons_zero, List.append_eq, List.cons_append, List.nil_append, List.append_nil, List.length_cons, List.length_nil, Nat.reduceAdd, Nat.reduceSub, Nat.beq, Option.bind_some, nc0, nc1, Int.cast_ofNat_Int, int_beq, int_bne, str_beq, ↓reduceIte, Int.reduceEq, Int.reduceLT, Int.reduceLE, Int.reduceNe, Int.reduceAdd, Int.reduceSub, Int.reduceMul, Int.reduceNeg, Int.reduceGT, Int.reduceGE, ge_iff_le, gt_iff_lt, not_true_eq_false, not_false_eq_true, decide_not, decide_true, decide_false, Bool.not_true, Bool.not_false, Bool.and_true, Bool.true_and, Bool.and_false, Bool.false_and, Bool.or_true, Bool.true_or, Bool.or_false, Bool.false_or, and_true, true_and, and_self, Nat.zero_add, Nat.add_zero, Int.toNat_zero, Nat.zero_mul, wp_pure, beq_self_eq_true, bne_self_eq_false, reduceCtorEq, ha.len, g]
    exact ⟨_, rfl, fun e => by cases e⟩
  · simp only [core1, cont_block_any, opg_un, u8, tyr, fgr, hkr, execOp, opd, opds, opt, ofValue, ofArr, ofList, ops2, putT, put, nth, forgetL, doCall, callV_func, builtin, one1, two2, some1, foldM2, min2, max2, blr, bCopy, intB, und, sizeOf, zeroOf, lenOf, bor, binInt, binOther, shiftB, shiftOp, intOp, wrapI, strOp, strK, intK, slK, aggK, unOp, doPick, branch, idx, readCells, cellsOf, oneOf, aggB, cel, alloc, doAlloc, newRow, nilCheck, extract, getO, ended, resultOf, oneOrTup, rowK, loopK, moved, fieldAddr, field, part, index, sameSz, equalTop, equal, nilFn, nilPtr, nilSl1, nilSl2, nilSl3, boolOf, List.getElem?_cons_succ, List.getElem?_cons_zero, List.append_eq, List.cons_append, List.nil_append, List.append_nil, List.length_cons, List.length_nil, Nat.reduceAdd, Nat.reduceSub, Nat.beq, Option.bind_some, nc0, nc1, Int.cast_ofNat_Int, int_beq, int_bne, str_beq, ↓reduceIte, Int.reduceEq, Int.reduceLT, Int.reduceLE, Int.reduceNe, Int.reduceAdd, Int.reduceSub, Int.reduceMul, Int.reduceNeg, Int.reduceGT, Int.reduceGE, ge_iff_le, gt_iff_lt, not_true_eq_false, not_false_eq_true, decide_not, decide_true, decide_false, Bool.not_true, Bool.not_false, Bool.and_true, Bool.true_and, Bool.and_false, Bool.false_and, Bool.or_true, Bool.true_or, Bool.or_false, Bool.false_or, and_true, true_and, and_self, Nat.zero_add, Nat.add_zero, Int.toNat_zero, Nat.zero_mul, wp_pure, beq_self_eq_true, bne_self_eq_false, reduceCtorEq, ha.len, g]
    exact ⟨_, rfl, fun _ => by omega⟩
theorem loop32 (Q : Post0) (ks : List Kf) (a b : AVal) (os os2 : List OpD) (hl : os.length = os2.length) (hb1 : os.length ≤ maxLen) (N : Nat) (h0 : Hp) (ha : OpsK N h0 a os) (hb : OpsK N h0 b os2)
    (hT : os = os2 → ∀ (h : Hp) (n : Nat) (x6 x7 x8 x9 x14 x15 x16 x17 x18 x30 : AVal), N ≤ n → Free h n → Old h0 h N → Kont env 32 none Q ks (.exit 0) (a :: b :: .fn (.func 33) [] [] :: AVal.junk :: AVal.junk :: AVal.junk :: x6 :: x7 :: x8 :: x9 :: AVal.junk :: AVal.junk :: AVal.junk :: AVal.junk :: x14 :: x15 :: x16 :: x17 :: x18 :: AVal.junk :: AVal.junk :: AVal.junk :: AVal.junk :: AVal.junk :: AVal.junk :: AVal.junk :: AVal.junk :: AVal.junk :: AVal.junk :: AVal.junk :: x30 :: AVal.junk :: []) h n)
    (hF : ¬ os = os2 → ∀ (h : Hp) (n : Nat) (x7 x8 x9 x14 x15 x16 x17 x18 x30 : AVal), N ≤ n → Free h n → Old h0 h N → Kont env 32 none Q ks .ret (a :: b :: .fn (.func 33) [] [] :: AVal.junk :: AVal.junk :: AVal.junk :: .bool false :: x7 :: x8 :: x9 :: AVal.junk :: AVal.junk :: AVal.junk :: AVal.junk :: x14 :: x15 :: x16 :: x17 :: x18 :: AVal.junk :: AVal.junk :: AVal.junk :: AVal.junk :: AVal.junk :: AVal.junk :: AVal.junk :: AVal.junk :: AVal.junk :: AVal.junk :: AVal.junk :: x30 :: AVal.junk :: []) h n) :
    ∀ (k i : Nat) (h : Hp) (n : Nat) (x6 x7 x8 x9 x14 x18 x30 : AVal), i + k = os.length → os.take i = os2.take i → N ≤ n → Free h n → Old h0 h N →
    Run env 32 none Q (.loop lp32_0) ks (a :: b :: .fn (.func 33) [] [] :: AVal.junk :: AVal.junk :: AVal.junk :: x6 :: x7 :: x8 :: x9 :: AVal.junk :: AVal.junk :: AVal.junk :: AVal.junk :: x14 :: a :: .int .i64 (os.length : Nat) :: .int .i64 (i : Nat) :: x18 :: AVal.junk :: AVal.junk :: AVal.junk :: AVal.junk :: AVal.junk :: AVal.junk :: AVal.junk :: AVal.junk :: AVal.junk :: AVal.junk :: AVal.junk :: x30 :: AVal.junk :: []) h n := by
  rw [maxLen_eq] at hb1
  intro k
  induction k with
  | zero =>
    intro i h n x6 x7 x8 x9 x14 x18 x30 hi ht hN hf ho
    have : i = os.length := by omega
    subst this
    rw [List.take_length, List.take_of_length_le (by omega)] at ht
    have hc : ¬ ((os.length : Nat) : Int) < ((os.length : Nat) : Int) := by omega
    rw [run_loop]
    simp only [lp32_0, loopsOf, Try.f32, Option.getD_some, core1, cont_block_any, opg_un, u8, tyr, fgr, hkr, execOp, opd, opds, opt, ofValue, ofArr, ofList, ops2, putT, put, nth, forgetL, doCall, callV_func, builtin, one1, two2, some1, foldM2, min2, max2, blr, bCopy, intB, und, sizeOf, zeroOf, lenOf, bor, binInt, binOther, shiftB, shiftOp, intOp, wrapI, strOp, strK, intK, slK, aggK, unOp, doPick, branch, idx, readCells, cellsOf, oneOf, aggB, cel, alloc, doAlloc, newRow, nilCheck, extract, getO, ended, resultOf, oneOrTup, rowK, loopK, moved, fieldAddr, field, part, index, sameSz, equalTop, equal, nilFn, nilPtr, nilSl1, nilSl2, nilSl3, boolOf, List.getElem?_cons_succ, List.getElem?_cons_zero, List.append_eq, List.cons_append, List.nil_append, List.append_nil, List.length_cons, List.length_nil, Nat.reduceAdd, Nat.reduceSub, Nat.beq, Option.bind_some, nc0, nc1, Int.cast_ofNat_Int, int_beq, int_bne, str_beq, ↓reduceIte, Int.reduceEq, Int.reduceLT, Int.reduceLE, Int.reduceNe, Int.reduceAdd, Int.reduceSub, Int.reduceMul, Int.reduceNeg, Int.reduceGT, Int.reduceGE, ge_iff_le, gt_iff_lt, not_true_eq_false, not_false_eq_true, decide_not, decide_true, decide_false, Bool.not_true, Bool.not_false, Bool.and_true, Bool.true_and, Bool.and_false, Bool.false_and, Bool.or_true, Bool.true_or, Bool.or_false, Bool.false_or, and_true, true_and, and_self, Nat.zero_add, Nat.add_zero, Int.toNat_zero, Nat.zero_mul, wp_pure, beq_self_eq_true, bne_self_eq_false, reduceCtorEq, List.getD_cons_zero, List.getD_cons_succ, hc]
    exact hT ht h n _ _ _ _ _ _ _ _ _ _ hN hf ho
  | succ k ih =>
    intro i h n x6 x7 x8 x9 x14 x18 x30 hi ht hN hf ho
    have h1' : i < os.length := by omega
    have h2 : i < os2.length := by omega
    have hc : ((i : Nat) : Int) < ((os.length : Nat) : Int) := by omega
    have hw : IntKind.i64.wrap (((i : Nat) : Int) + 1) = ((i + 1 : Nat) : Int) := by rw [w64 (by omega) (by omega)]; omega
    obtain ⟨p, p0, p1, da, ids, A⟩ := (ha h n hN ho).at_ i h1'
    rw [run_loop]
    simp only [lp32_0, loopsOf, Try.f32, Option.getD_some, core1, cont_block_any, opg_un, u8, tyr, fgr, hkr, execOp, opd, opds, opt, ofValue, ofArr, ofList, ops2, putT, put, nth, forgetL, doCall, callV_func, builtin, one1, two2, some1, foldM2, min2, max2, blr, bCopy, intB, und, sizeOf, zeroOf, lenOf, bor, binInt, binOther, shiftB, shiftOp, intOp, wrapI, strOp, strK, intK, slK, aggK, unOp, doPick, branch, idx, readCells, cellsOf, oneOf, aggB, cel, alloc, doAlloc, newRow, nilCheck, extract, getO, ended, resultOf, oneOrTup, rowK, loopK, moved, fieldAddr, field, part, index, sameSz, equalTop, equal, nilFn, nilPtr, nilSl1, nilSl2, nilSl3, boolOf, List.getElem?_cons_succ, List.getElem?_cons_zero, List.append_eq, List.cons_append, List.nil_append, List.append_nil, List.length_cons, List.length_nil, Nat.reduceAdd, Nat.reduceSub, Nat.beq, Option.bind_some, nc0, nc1, Int.cast_ofNat_Int, int_beq, int_bne, str_beq, ↓reduceIte, Int.reduceEq, Int.reduceLT, Int.reduceLE, Int.reduceNe, Int.reduceAdd, Int.reduceSub, Int.reduceMul, Int.reduceNeg, Int.reduceGT, Int.reduceGE, ge_iff_le, gt_iff_lt, not_true_eq_false, not_false_eq_true, decide_not, decide_true, decide_false, Bool.not_true, Bool.not_false, Bool.and_true, Bool.true_and, Bool.and_false, Bool.false_and, Bool.or_true, Bool.true_or, Bool.or_false, Bool.false_or, and_true, true_and, and_self, Nat.zero_add, Nat.add_zero, Int.toNat_zero, Nat.zero_mul, wp_pure, beq_self_eq_true, bne_self_eq_false, reduceCtorEq, List.getD_cons_zero, List.getD_cons_succ, hc]
    rw [opv_rd (A.ix _ _)]
    simp only [core1, cont_block_any, opg_un, u8, tyr, fgr, hkr, execOp, opd, opds, opt, ofValue, ofArr, ofList, ops2, putT, put, nth, forgetL, doCall, callV_func, builtin, one1, two2, some1, foldM2, min2, max2, blr, bCopy, intB, und, sizeOf, zeroOf, lenOf, bor, binInt, binOther, shiftB, shiftOp, intOp, wrapI, strOp, strK, intK, slK, aggK, unOp, doPick, branch, idx, readCells, cellsOf, oneOf, aggB, cel, alloc, doAlloc, newRow, nilCheck, extract, getO, ended, resultOf, oneOrTup, rowK, loopK, moved, fieldAddr, field, part, index, sameSz, equalTop, equal, nilFn, nilPtr, nilSl1, nilSl2, nilSl3, boolOf, List.getElem?_cons_succ, List.getElem?_cons_zero, List.append_eq, List.cons_append, List.nil_append, List.append_nil, List.length_cons, List.length_nil, Nat.reduceAdd, Nat.reduceSub, Nat.beq, Option.bind_some, nc0, nc1, Int.cast_ofNat_Int, int_beq, int_bne, str_beq, ↓reduceIte, Int.reduceEq, Int.reduceLT, Int.reduceLE, Int.reduceNe, Int.reduceAdd, Int.reduceSub, Int.reduceMul, Int.reduceNeg, Int.reduceGT, Int.reduceGE, ge_iff_le, gt_iff_lt, not_true_eq_false, not_false_eq_true, decide_not, decide_true, decide_false, Bool.not_true, Bool.not_false, Bool.and_true, Bool.true_and, Bool.and_false, Bool.false_and, Bool.or_true, Bool.true_or, Bool.or_false, Bool.false_or, and_true, true_and, and_self, Nat.zero_add, Nat.add_zero, Int.toNat_zero, Nat.zero_mul, wp_pure, beq_self_eq_true, bne_self_eq_false, reduceCtorEq, buildSlice, build, reps, fill, sizesOf, List.take_succ_cons, List.take_zero, List.drop_succ_cons, List.drop_zero, Nat.reduceMul, Nat.ble, Nat.reduceLeDiff, Nat.mul_one, Nat.one_mul, writeCells, setAll, Cont.size, Cont.set, Cont.at, Cont.sub, upd_same, upd_ne, List.all_cons, List.all_nil, Option.some.injEq, exists_eq_left', Int.reduceToNat, ne_eq, and_true, true_and, List.length_cons, List.length_nil, Nat.mul_zero, Nat.zero_mul]
    rw [opv_rd A.both]
    have ka := A.bytes.kind
    simp (disch := omega) only [core1, cont_block_any, opg_un, u8, tyr, fgr, hkr, execOp, opd, opds, opt, ofValue, ofArr, ofList, ops2, putT, put, nth, forgetL, doCall, callV_func, builtin, one1, two2, some1, foldM2, min2, max2, blr, bCopy, intB, und, sizeOf, zeroOf, lenOf, bor, binInt, binOther, shiftB, shiftOp, intOp, wrapI, strOp, strK, intK, slK, aggK, unOp, doPick, branch, idx, readCells, cellsOf, oneOf, aggB, cel, alloc, doAlloc, newRow, nilCheck, extract, getO, ended, resultOf, oneOrTup, rowK, loopK, moved, fieldAddr, field, part, index, sameSz, equalTop, equal, nilFn, nilPtr, nilSl1, nilSl2, nilSl3, boolOf, List.getElem?_cons_succ, List.getElem?_cons_zero, List.append_eq, List.cons_append, List.nil_append, List.append_nil, List.length_cons, List.length_nil, Nat.reduceAdd, Nat.reduceSub, Nat.beq, Option.bind_some, nc0, nc1, Int.cast_ofNat_Int, int_beq, int_bne, str_beq, ↓reduceIte, Int.reduceEq, Int.reduceLT, Int.reduceLE, Int.reduceNe, Int.reduceAdd, Int.reduceSub, Int.reduceMul, Int.reduceNeg, Int.reduceGT, Int.reduceGE, ge_iff_le, gt_iff_lt, not_true_eq_false, not_false_eq_true, decide_not, decide_true, decide_false, Bool.not_true, Bool.not_false, Bool.and_true, Bool.true_and, Bool.and_false, Bool.false_and, Bool.or_true, Bool.true_or, Bool.or_false, Bool.false_or, and_true, true_and, and_self, Nat.zero_add, Nat.add_zero, Int.toNat_zero, Nat.zero_mul, wp_pure, beq_self_eq_true, bne_self_eq_false, reduceCtorEq, memr, buildSlice, build, reps, fill, sizesOf, List.take_succ_cons, List.take_zero, List.drop_succ_cons, List.drop_zero, Nat.reduceMul, Nat.ble, Nat.reduceLeDiff, Nat.mul_one, Nat.one_mul, writeCells, setAll, Cont.size, Cont.set, Cont.at, Cont.sub, upd_same, upd_ne, List.all_cons, List.all_nil, Option.some.injEq, exists_eq_left', Int.reduceToNat, ne_eq, and_true, true_and, List.length_cons, List.length_nil, Nat.mul_zero, Nat.zero_mul, ka]
    have dn : ∀ j, ownId da = some j → j < n := fun j hj => Nat.lt_of_lt_of_le (below_own A.below hj) hN
    obtain ⟨H, hH⟩ : ∃ H, H = upd (upd h n (some (Blk.row (Cont.l [AVal.int IntKind.u8 0, AVal.nils]) 32))) n (some (Blk.row (Cont.l [AVal.int IntKind.u8 (os[i].1.toNat : Int), da]) 32)) := ⟨_, rfl⟩
    rw [← hH]
    have oH : Old h0 H N := by rw [hH]; exact (ho.upd hN).upd hN
    have fH : Free H (n + 1) := by rw [hH]; exact hf.new.upd (by omega)
    have kH : H n = some (Blk.row (Cont.l [AVal.int IntKind.u8 (os[i].1.toNat : Int), da]) 32) := by rw [hH]; exact upd_same _ _ _
    have dH : Bytes H da os[i].2 := A.bytes.keep fun j hj => by have := dn j hj; rw [hH, upd_ne _ _ (by omega), upd_ne _ _ (by omega)]
    obtain ⟨q, q0, q1, db, ids2, B⟩ := (hb H (n + 1) (by omega) oH).at_ i h2
    rw [opv_rd (B.ix _ _)]
    simp only [core1, cont_block_any, opg_un, u8, tyr, fgr, hkr, execOp, opd, opds, opt, ofValue, ofArr, ofList, ops2, putT, put, nth, forgetL, doCall, callV_func, builtin, one1, two2, some1, foldM2, min2, max2, blr, bCopy, intB, und, sizeOf, zeroOf, lenOf, bor, binInt, binOther, shiftB, shiftOp, intOp, wrapI, strOp, strK, intK, slK, aggK, unOp, doPick, branch, idx, readCells, cellsOf, oneOf, aggB, cel, alloc, doAlloc, newRow, nilCheck, extract, getO, ended, resultOf, oneOrTup, rowK, loopK, moved, fieldAddr, field, part, index, sameSz, equalTop, equal, nilFn, nilPtr, nilSl1, nilSl2, nilSl3, boolOf, List.getElem?_cons_succ, List.getElem?_cons_zero, List.append_eq, List.cons_append, List.nil_append, List.append_nil, List.length_cons, List.length_nil, Nat.reduceAdd, Nat.reduceSub, Nat.beq, Option.bind_some, nc0, nc1, Int.cast_ofNat_Int, int_beq, int_bne, str_beq, ↓reduceIte, Int.reduceEq, Int.reduceLT, Int.reduceLE, Int.reduceNe, Int.reduceAdd, Int.reduceSub, Int.reduceMul, Int.reduceNeg, Int.reduceGT, Int.reduceGE, ge_iff_le, gt_iff_lt, not_true_eq_false, not_false_eq_true, decide_not, decide_true, decide_false, Bool.not_true, Bool.not_false, Bool.and_true, Bool.true_and, Bool.and_false, Bool.false_and, Bool.or_true, Bool.true_or, Bool.or_false, Bool.false_or, and_true, true_and, and_self, Nat.zero_add, Nat.add_zero, Int.toNat_zero, Nat.zero_mul, wp_pure, beq_self_eq_true, bne_self_eq_false, reduceCtorEq, buildSlice, build, reps, fill, sizesOf, List.take_succ_cons, List.take_zero, List.drop_succ_cons, List.drop_zero, Nat.reduceMul, Nat.ble, Nat.reduceLeDiff, Nat.mul_one, Nat.one_mul, writeCells, setAll, Cont.size, Cont.set, Cont.at, Cont.sub, upd_same, upd_ne, List.all_cons, List.all_nil, Option.some.injEq, exists_eq_left', Int.reduceToNat, ne_eq, and_true, true_and, List.length_cons, List.length_nil, Nat.mul_zero, Nat.zero_mul]
    rw [opv_rd B.both]
    have kb := B.bytes.kind
    simp (disch := omega) only [core1, cont_block_any, opg_un, u8, tyr, fgr, hkr, execOp, opd, opds, opt, ofValue, ofArr, ofList, ops2, putT, put, nth, forgetL, doCall, callV_func, builtin, one1, two2, some1, foldM2, min2, max2, blr, bCopy, intB, und, sizeOf, zeroOf, lenOf, bor, binInt, binOther, shiftB, shiftOp, intOp, wrapI, strOp, strK, intK, slK, aggK, unOp, doPick, branch, idx, readCells, cellsOf, oneOf, aggB, cel, alloc, doAlloc, newRow, nilCheck, extract, getO, ended, resultOf, oneOrTup, rowK, loopK, moved, fieldAddr, field, part, index, sameSz, equalTop, equal, nilFn, nilPtr, nilSl1, nilSl2, nilSl3, boolOf, List.getElem?_cons_succ, List.getElem?_cons_zero, List.append_eq, List.cons_append, List.nil_append, List.append_nil, List.length_cons, List.length_nil, Nat.reduceAdd, Nat.reduceSub, Nat.beq, Option.bind_some, nc0, nc1, Int.cast_ofNat_Int, int_beq, int_bne, str_beq, ↓reduceIte, Int.reduceEq, Int.reduceLT, Int.reduceLE, Int.reduceNe, Int.reduceAdd, Int.reduceSub, Int.reduceMul, Int.reduceNeg, Int.reduceGT, Int.reduceGE, ge_iff_le, gt_iff_lt, not_true_eq_false, not_false_eq_true, decide_not, decide_true, decide_false, Bool.not_true, Bool.not_false, Bool.and_true, Bool.true_and, Bool.and_false, Bool.false_and, Bool.or_true, Bool.true_or, Bool.or_false, Bool.false_or, and_true, true_and, and_self, Nat.zero_add, Nat.add_zero, Int.toNat_zero, Nat.zero_mul, wp_pure, beq_self_eq_true, bne_self_eq_false, reduceCtorEq, memr, buildSlice, build, reps, fill, sizesOf, List.take_succ_cons, List.take_zero, List.drop_succ_cons, List.drop_zero, Nat.reduceMul, Nat.ble, Nat.reduceLeDiff, Nat.mul_one, Nat.one_mul, writeCells, setAll, Cont.size, Cont.set, Cont.at, Cont.sub, upd_same, upd_ne, List.all_cons, List.all_nil, Option.some.injEq, exists_eq_left', Int.reduceToNat, ne_eq, and_true, true_and, List.length_cons, List.length_nil, Nat.mul_zero, Nat.zero_mul, kb, kH]
    have en : ∀ j, ownId db = some j → j < n + 1 := fun j hj => Nat.lt_of_lt_of_le (below_own B.below hj) (by omega)
    obtain ⟨G, hG⟩ : ∃ G, G = upd (upd H (n + 1) (some (Blk.row (Cont.l [AVal.int IntKind.u8 0, AVal.nils]) 32))) (n + 1) (some (Blk.row (Cont.l [AVal.int IntKind.u8 (os2[i].1.toNat : Int), db]) 32)) := ⟨_, rfl⟩
    rw [← hG]
    have oG : Old h0 G N := by rw [hG]; exact (oH.upd (by omega)).upd (by omega)
    have fG : Free G (n + 1 + 1) := by rw [hG]; exact fH.new.upd (by omega)
    have kG : G (n + 1) = some (Blk.row (Cont.l [AVal.int IntKind.u8 (os2[i].1.toNat : Int), db]) 32) := by rw [hG]; exact upd_same _ _ _
    have kG2 : G n = some (Blk.row (Cont.l [AVal.int IntKind.u8 (os[i].1.toNat : Int), da]) 32) := by rw [hG, upd_ne _ _ (by omega), upd_ne _ _ (by omega)]; exact kH
    have dG : Bytes G da os[i].2 := dH.keep fun j hj => by have := dn j hj; rw [hG, upd_ne _ _ (by omega), upd_ne _ _ (by omega)]
    have eG : Bytes G db os2[i].2 := B.bytes.keep fun j hj => by have := en j hj; rw [hG, upd_ne _ _ (by omega), upd_ne _ _ (by omega)]
    refine opv_callf fG (f33 os[i].1 os2[i].1 da db _ _ G (n + 1 + 1) dG eG (A.below.mono (by omega)) (B.below.mono (by omega))) fun v1 h1 n1 hn1 hf1 ⟨e1, old1⟩ => ?_
    subst e1
    have o1 : Old h0 h1 N := oG.trans old1 (by omega)
    by_cases he : os[i] = os2[i]
    · have he2 : (os[i].1, os[i].2) = (os2[i].1, os2[i].2) := he
      rw [decide_eq_true he2]
      simp only [core1, cont_block_any, opg_un, u8, tyr, fgr, hkr, execOp, opd, opds, opt, ofValue, ofArr, ofList, ops2, putT, put, nth, forgetL, doCall, callV_func, builtin, one1, two2, some1, foldM2, min2, max2, blr, bCopy, intB, und, sizeOf, zeroOf, lenOf, bor, binInt, binOther, shiftB, shiftOp, intOp, wrapI, strOp, strK, intK, slK, aggK, unOp, doPick, branch, idx, readCells, cellsOf, oneOf, aggB, cel, alloc, doAlloc, newRow, nilCheck, extract, getO, ended, resultOf, oneOrTup, rowK, loopK, moved, fieldAddr, field, part, index, sameSz, equalTop, equal, nilFn, nilPtr, nilSl1, nilSl2, nilSl3, boolOf, List.getElem?_cons_succ, List.getElem?_cons_zero, List.append_eq, List.cons_append, List.nil_append, List.append_nil, List.length_cons, List.length_nil, Nat.reduceAdd, Nat.reduceSub, Nat.beq, Option.bind_some, nc0, nc1, Int.cast_ofNat_Int, int_beq, int_bne, str_beq, ↓reduceIte, Int.reduceEq, Int.reduceLT, Int.reduceLE, Int.reduceNe, Int.reduceAdd, Int.reduceSub, Int.reduceMul, Int.reduceNeg, Int.reduceGT, Int.reduceGE, ge_iff_le, gt_iff_lt, not_true_eq_false, not_false_eq_true, decide_not, decide_true, decide_false, Bool.not_true, Bool.not_false, Bool.and_true, Bool.true_and, Bool.and_false, Bool.false_and, Bool.or_true, Bool.true_or, Bool.or_false, Bool.false_or, and_true, true_and, and_self, Nat.zero_add, Nat.add_zero, Int.toNat_zero, Nat.zero_mul, wp_pure, beq_self_eq_true, bne_self_eq_false, reduceCtorEq, hw]
      refine ih (i + 1) h1 n1 _ _ _ _ _ _ _ (by omega) ?_ (by omega) hf1 o1
      rw [take_succ_eq h1', take_succ_eq h2, ht, he]
    · have he2 : ¬ (os[i].1, os[i].2) = (os2[i].1, os2[i].2) := he
      rw [decide_eq_false he2]
      simp only [core1, cont_block_any, opg_un, u8, tyr, fgr, hkr, execOp, opd, opds, opt, ofValue, ofArr, ofList, ops2, putT, put, nth, forgetL, doCall, callV_func, builtin, one1, two2, some1, foldM2, min2, max2, blr, bCopy, intB, und, sizeOf, zeroOf, lenOf, bor, binInt, binOther, shiftB, shiftOp, intOp, wrapI, strOp, strK, intK, slK, aggK, unOp, doPick, branch, idx, readCells, cellsOf, oneOf, aggB, cel, alloc, doAlloc, newRow, nilCheck, extract, getO, ended, resultOf, oneOrTup, rowK, loopK, moved, fieldAddr, field, part, index, sameSz, equalTop, equal, nilFn, nilPtr, nilSl1, nilSl2, nilSl3, boolOf, List.getElem?_cons_succ, List.getElem?_cons_zero, List.append_eq, List.cons_append, List.nil_append, List.append_nil, List.length_cons, List.length_nil, Nat.reduceAdd, Nat.reduceSub, Nat.beq, Option.bind_some, nc0, nc1, Int.cast_ofNat_Int, int_beq, int_bne, str_beq, ↓reduceIte, Int.reduceEq, Int.reduceLT, Int.reduceLE, Int.reduceNe, Int.reduceAdd, Int.reduceSub, Int.reduceMul, Int.reduceNeg, Int.reduceGT, Int.reduceGE, ge_iff_le, gt_iff_lt, not_true_eq_false, not_false_eq_true, decide_not, decide_true, decide_false, Bool.not_true, Bool.not_false, Bool.and_true, Bool.true_and, Bool.and_false, Bool.false_and, Bool.or_true, Bool.true_or, Bool.or_false, Bool.false_or, and_true, true_and, and_self, Nat.zero_add, Nat.add_zero, Int.toNat_zero, Nat.zero_mul, wp_pure, beq_self_eq_true, bne_self_eq_false, reduceCtorEq]
      exact hF (fun e => he (by subst e; rfl)) h1 n1 _ _ _ _ _ _ _ _ _ (by omega) hf1 o1
theorem f12 (a b : AVal) (os os2 : List OpD) (h : Hp) (n : Nat) (hf : Free h n) (ha : OpsK n h a os) (hb : OpsK n h b os2) (hb1 : os.length ≤ maxLen) (hb2 : os2.length ≤ maxLen) :
    Wp (callI env (evalW env) 12 [a, b]) h n fun v' h' n' => v' = .bool (decide (os = os2)) ∧ Old h h' n := by
  refine wp_callI ff12 fi12 ?_
  simp only [fu12, Try.f12, Option.getD_some, List.replicate, core1, cont_block_any, opg_un, u8, tyr, fgr, hkr, execOp, opd, opds, opt, ofValue, ofArr, ofList, ops2, putT, put, nth, forgetL, doCall, callV_func, builtin, one1, two2, some1, foldM2, min2, max2, blr, bCopy, intB, und, sizeOf, zeroOf, lenOf, bor, binInt, binOther, shiftB, shiftOp, intOp, wrapI, strOp, strK, intK, slK, aggK, unOp, doPick, branch, idx, readCells, cellsOf, oneOf, aggB, cel, alloc, doAlloc, newRow, nilCheck, extract, getO, ended, resultOf, oneOrTup, rowK, loopK, moved, fieldAddr, field, part, index, sameSz, equalTop, equal, nilFn, nilPtr, nilSl1, nilSl2, nilSl3, boolOf, List.getElem?_cons_succ, List.getElem?_cons_zero, List.append_eq, List.cons_append, List.nil_append, List.append_nil, List.length_cons, List.length_nil, Nat.reduceAdd, Nat.reduceSub, Nat.beq, Option.bind_some, nc0, nc1, Int.cast_ofNat_Int, int_beq, int_bne, str_beq, ↓reduceIte, Int.reduceEq, Int.reduceLT, Int.reduceLE, Int.reduceNe, Int.reduceAdd, Int.reduceSub, Int.reduceMul, Int.reduceNeg, Int.reduceGT, Int.reduceGE, ge_iff_le, gt_iff_lt, not_true_eq_false, not_false_eq_true, decide_not, decide_true, decide_false, Bool.not_true, Bool.not_false, Bool.and_true, Bool.true_and, Bool.and_false, Bool.false_and, Bool.or_true, Bool.true_or, Bool.or_false, Bool.false_or, and_true, true_and, and_self, Nat.zero_add, Nat.add_zero, Int.toNat_zero, Nat.zero_mul, wp_pure, beq_self_eq_true, bne_self_eq_false, reduceCtorEq]
  have h32 : Wp (callI env (evalW env) 32 [a, b, .fn (.func 33) [] []]) h n fun v' h' n' => v' = .bool (decide (os = os2)) ∧ Old h h' n := by
    refine wp_callI ff32 fi32 ?_
    by_cases hl : os.length = os2.length
    · have hli : ((os.length : Nat) : Int) = ((os2.length : Nat) : Int) := by omega
      simp only [fu32, Try.f32, Option.getD_some, List.replicate, core1, cont_block_any, opg_un, u8, tyr, fgr, hkr, execOp, opd, opds, opt, ofValue, ofArr, ofList, ops2, putT, put, nth, forgetL, doCall, callV_func, builtin, one1, two2, some1, foldM2, min2, max2, blr, bCopy, intB, und, sizeOf, zeroOf, lenOf, bor, binInt, binOther, shiftB, shiftOp, intOp, wrapI, strOp, strK, intK, slK, aggK, unOp, doPick, branch, idx, readCells, cellsOf, oneOf, aggB, cel, alloc, doAlloc, newRow, nilCheck, extract, getO, ended, resultOf, oneOrTup, rowK, loopK, moved, fieldAddr, field, part, index, sameSz, equalTop, equal, nilFn, nilPtr, nilSl1, nilSl2, nilSl3, boolOf, List.getElem?_cons_succ, List.getElem?_cons_zero, List.append_eq, List.cons_append, List.nil_append, List.append_nil, List.length_cons, List.length_nil, Nat.reduceAdd, Nat.reduceSub, Nat.beq, Option.bind_some, nc0, nc1, Int.cast_ofNat_Int, int_beq, int_bne, str_beq, ↓reduceIte, Int.reduceEq, Int.reduceLT, Int.reduceLE, Int.reduceNe, Int.reduceAdd, Int.reduceSub, Int.reduceMul, Int.reduceNeg, Int.reduceGT, Int.reduceGE, ge_iff_le, gt_iff_lt, not_true_eq_false, not_false_eq_true, decide_not, decide_true, decide_false, Bool.not_true, Bool.not_false, Bool.and_true, Bool.true_and, Bool.and_false, Bool.false_and, Bool.or_true, Bool.true_or, Bool.or_false, Bool.false_or, and_true, true_and, and_self, Nat.zero_add, Nat.add_zero, Int.toNat_zero, Nat.zero_mul, wp_pure, beq_self_eq_true, bne_self_eq_false, reduceCtorEq, ha.r.len, hb.r.len, hli]
      rw [← hli]
      refine loop32 _ _ a b os os2 hl hb1 n h ha hb ?_ ?_ os.length 0 h n _ _ _ _ _ _ _ (by omega) rfl (Nat.le_refl _) hf (Old.refl _ _)
      · intro e h' n' x6 x7 x8 x9 x14 x15 x16 x17 x18 x30 hN hf' ho
        simp only [core1, cont_block_any, opg_un, u8, tyr, fgr, hkr, execOp, opd, opds, opt, ofValue, ofArr, ofList, ops2, putT, put, nth, forgetL, doCall, callV_func, builtin, one1, two2, some1, foldM2, min2, max2, blr, bCopy, intB, und, sizeOf, zeroOf, lenOf, bor, binInt, binOther, shiftB, shiftOp, intOp, wrapI, strOp, strK, intK, slK, aggK, unOp, doPick, branch, idx, readCells, cellsOf, oneOf, aggB, cel, alloc, doAlloc, newRow, nilCheck, extract, getO, ended, resultOf, oneOrTup, rowK, loopK, moved, fieldAddr, field, part, index, sameSz, equalTop, equal, nilFn, nilPtr, nilSl1, nilSl2, nilSl3, boolOf, List.getElem?_cons_succ, List.getElem?_cons_zero, List.append_eq, List.cons_append, List.nil_append, List.append_nil, List.length_cons, List.length_nil, Nat.reduceAdd, Nat.reduceSub, Nat.beq, Option.bind_some, nc0, nc1, Int.cast_ofNat_Int, int_beq, int_bne, str_beq, ↓reduceIte, Int.reduceEq, Int.reduceLT, Int.reduceLE, Int.reduceNe, Int.reduceAdd, Int.reduceSub, Int.reduceMul, Int.reduceNeg, Int.reduceGT, Int.reduceGE, ge_iff_le, gt_iff_lt, not_true_eq_false, not_false_eq_true, decide_not, decide_true, decide_false, Bool.not_true, Bool.not_false, Bool.and_true, Bool.true_and, Bool.and_false, Bool.false_and, Bool.or_true, Bool.true_or, Bool.or_false, Bool.false_or, and_true, true_and, and_self, Nat.zero_add, Nat.add_zero, Int.toNat_zero, Nat.zero_mul, wp_pure, beq_self_eq_true, bne_self_eq_false, reduceCtorEq]
        rw [decide_eq_true e]
        exact ⟨rfl, ho⟩
      · intro e h' n' x7 x8 x9 x14 x15 x16 x17 x18 x30 hN hf' ho
        simp only [core1, cont_block_any, opg_un, u8, tyr, fgr, hkr, execOp, opd, opds, opt, ofValue, ofArr, ofList, ops2, putT, put, nth, forgetL, doCall, callV_func, builtin, one1, two2, some1, foldM2, min2, max2, blr, bCopy, intB, und, sizeOf, zeroOf, lenOf, bor, binInt, binOther, shiftB, shiftOp, intOp, wrapI, strOp, strK, intK, slK, aggK, unOp, doPick, branch, idx, readCells, cellsOf, oneOf, aggB, cel, alloc, doAlloc, newRow, nilCheck, extract, getO, ended, resultOf, oneOrTup, rowK, loopK, moved, fieldAddr, field, part, index, sameSz, equalTop, equal, nilFn, nilPtr, nilSl1, nilSl2, nilSl3, boolOf, List.getElem?_cons_succ, List.getElem?_cons_zero, List.append_eq, List.cons_append, List.nil_append, List.append_nil, List.length_cons, List.length_nil, Nat.reduceAdd, Nat.reduceSub, Nat.beq, Option.bind_some, nc0, nc1, Int.cast_ofNat_Int, int_beq, int_bne, str_beq, ↓reduceIte, Int.reduceEq, Int.reduceLT, Int.reduceLE, Int.reduceNe, Int.reduceAdd, Int.reduceSub, Int.reduceMul, Int.reduceNeg, Int.reduceGT, Int.reduceGE, ge_iff_le, gt_iff_lt, not_true_eq_false, not_false_eq_true, decide_not, decide_true, decide_false, Bool.not_true, Bool.not_false, Bool.and_true, Bool.true_and, Bool.and_false, Bool.false_and, Bool.or_true, Bool.true_or, Bool.or_false, Bool.false_or, and_true, true_and, and_self, Nat.zero_add, Nat.add_zero, Int.toNat_zero, Nat.zero_mul, wp_pure, beq_self_eq_true, bne_self_eq_false, reduceCtorEq]
        rw [decide_eq_false e]
        exact ⟨rfl, ho⟩
    · have hli : ¬ ((os.length : Nat) : Int) = ((os2.length : Nat) : Int) := by omega
      simp only [fu32, Try.f32, Option.getD_some, List.replicate, core1, cont_block_any, opg_un, u8, tyr, fgr, hkr, execOp, opd, opds, opt, ofValue, ofArr, ofList, ops2, putT, put, nth, forgetL, doCall, callV_func, builtin, one1, two2, some1, foldM2, min2, max2, blr, bCopy, intB, und, sizeOf, zeroOf, lenOf, bor, binInt, binOther, shiftB, shiftOp, intOp, wrapI, strOp, strK, intK, slK, aggK, unOp, doPick, branch, idx, readCells, cellsOf, oneOf, aggB, cel, alloc, doAlloc, newRow, nilCheck, extract, getO, ended, resultOf, oneOrTup, rowK, loopK, moved, fieldAddr, field, part, index, sameSz, equalTop, equal, nilFn, nilPtr, nilSl1, nilSl2, nilSl3, boolOf, List.getElem?_cons_succ, List.getElem?_cons_zero, List.append_eq, List.cons_append, List.nil_append, List.append_nil, List.length_cons, List.length_nil, Nat.reduceAdd, Nat.reduceSub, Nat.beq, Option.bind_some, nc0, nc1, Int.cast_ofNat_Int, int_beq, int_bne, str_beq, ↓reduceIte, Int.reduceEq, Int.reduceLT, Int.reduceLE, Int.reduceNe, Int.reduceAdd, Int.reduceSub, Int.reduceMul, Int.reduceNeg, Int.reduceGT, Int.reduceGE, ge_iff_le, gt_iff_lt, not_true_eq_false, not_false_eq_true, decide_not, decide_true, decide_false, Bool.not_true, Bool.not_false, Bool.and_true, Bool.true_and, Bool.and_false, Bool.false_and, Bool.or_true, Bool.true_or, Bool.or_false, Bool.false_or, and_true, true_and, and_self, Nat.zero_add, Nat.add_zero, Int.toNat_zero, Nat.zero_mul, wp_pure, beq_self_eq_true, bne_self_eq_false, reduceCtorEq, ha.r.len, hb.r.len, hli]
      exact ⟨by rw [decide_eq_false (fun e => hl (by rw [e]))], Old.refl _ _⟩
  refine opv_call h32 fun v1 h1 n1 hn1 ⟨e1, o1⟩ => ?_
  subst e1
  simp only [core1, cont_block_any, opg_un, u8, tyr, fgr, hkr, execOp, opd, opds, opt, ofValue, ofArr, ofList, ops2, putT, put, nth, forgetL, doCall, callV_func, builtin, one1, two2, some1, foldM2, min2, max2, blr, bCopy, intB, und, sizeOf, zeroOf, lenOf, bor, binInt, binOther, shiftB, shiftOp, intOp, wrapI, strOp, strK, intK, slK, aggK, unOp, doPick, branch, idx, readCells, cellsOf, oneOf, aggB, cel, alloc, doAlloc, newRow, nilCheck, extract, getO, ended, resultOf, oneOrTup, rowK, loopK, moved, fieldAddr, field, part, index, sameSz, equalTop, equal, nilFn, nilPtr, nilSl1, nilSl2, nilSl3, boolOf, List.getElem?_cons_succ, List.getElem?_cons_zero, List.append_eq, List.cons_append, List.nil_append, List.append_nil, List.length_cons, List.length_nil, Nat.reduceAdd, Nat.reduceSub, Nat.beq, Option.bind_some, nc0, nc1, Int.cast_ofNat_Int, int_beq, int_bne, str_beq, ↓reduceIte, Int.reduceEq, Int.reduceLT, Int.reduceLE, Int.reduceNe, Int.reduceAdd, Int.reduceSub, Int.reduceMul, Int.reduceNeg, Int.reduceGT, Int.reduceGE, ge_iff_le, gt_iff_lt, not_true_eq_false, not_false_eq_true, decide_not, decide_true, decide_false, Bool.not_true, Bool.not_false, Bool.and_true, Bool.true_and, Bool.and_false, Bool.false_and, Bool.or_true, Bool.true_or, Bool.or_false, Bool.false_or, and_true, true_and, and_self, Nat.zero_add, Nat.add_zero, Int.toNat_zero, Nat.zero_mul, wp_pure, beq_self_eq_true, bne_self_eq_false, reduceCtorEq]
  exact o1
/-- How long the bytes are that follow. -/
def lenB (c : UInt8) (m : Nat) : List UInt8 := if c.toNat = 77 then [UInt8.ofNat m, UInt8.ofNat (m / 256)] else if c.toNat = 76 then [UInt8.ofNat m] else []
/-- An operation's bytes. -/
def opB (c : UInt8) (l : List UInt8) : List UInt8 := c :: (lenB c l.length ++ l)
def joinV : List OpD → Option (List UInt8)
  | [] => some []
  | o :: os => if mayV o.1 o.2.length then (joinV os).map fun r => opB o.1 o.2 ++ r else none
theorem lo_byte (m : Nat) : IntKind.u8.wrap ((m : Nat) : Int) = ((UInt8.ofNat m).toNat : Int) := by rw [IntKind.wrap_u8, UInt8.toNat_ofNat']; omega
theorem fdiv_byte (m : Nat) : IntKind.u8.wrap (Int.fdiv ((m : Nat) : Int) 256) = ((UInt8.ofNat (m / 256)).toNat : Int) := by
  rw [Int.fdiv_eq_ediv_of_nonneg _ (by omega), IntKind.wrap_u8, UInt8.toNat_ofNat']; omega
theorem fdiv_one (m : Int) : Int.fdiv m 1 = m := by rw [Int.fdiv_eq_ediv_of_nonneg _ (by omega)]; omega
theorem len_lenB (c : UInt8) (m : Nat) : (lenB c m).length ≤ 2 := by unfold lenB; (repeat' split) <;> simp
/- Operations joined: the document's. -/
theorem drop_get {os : List OpD} {i : Nat} (h : i < os.length) : os.drop i = os[i] :: os.drop (i + 1) := List.drop_eq_getElem_cons h
theorem join_at {os : List OpD} {i : Nat} (h : i < os.length) : joinV (os.drop i) = if mayV os[i].1 os[i].2.length then (joinV (os.drop (i + 1))).map fun r => opB os[i].1 os[i].2 ++ r else none := by rw [drop_get h, joinV]
theorem opB_len {c : UInt8} {l : List UInt8} : (opB c l).length ≤ 3 + l.length := by
  have := len_lenB c l.length
  simp only [opB, List.length_cons, List.length_append]; omega
/-- New memory that may grow. -/
def New5 (h : Hp) (n : Nat) (l : List UInt8) (v : AVal) (h' : Hp) (n' : Nat) : Prop := ∃ cnt, Own h' n' 5 1 v cnt (l.map u8) ∧ (∀ j, ownId v = some j → n ≤ j) ∧ Old h h' n
theorem New5.to0 {h h' : Hp} {n n' : Nat} {l : List UInt8} {v : AVal} (hn : New5 h n l v h' n') : New0 h n l v h' n' := by
  obtain ⟨cnt, a, b, c⟩ := hn
  exact ⟨5, cnt, a, b, c⟩
theorem new5_nil {h h1 : Hp} {n n1 : Nat} (ho : Old h h1 n) : New5 h n [] .nils h1 n1 := ⟨0, .nil, (fun j hj => by cases hj), ho⟩
/-- What is joined, in new memory. -/
def JoinS (h : Hp) (n : Nat) (os : List OpD) (e : IntKind) (v : AVal) (h' : Hp) (n' : Nat) : Prop :=
  ∃ x, v = .tup [x, .int .i64 (match joinV os with | some _ => 0 | none => 100)] ∧ New5 h n ((joinV os).getD []) x h' n'
/- Operations joined: the program's. -/
theorem push_byte {fn : FuncId} {rnd : Option Nat} {Q : Post0} {ks : List Kf} {ops rest : List Oper} {d : Option Tmp} {tm : List AVal} {s : AVal} {h : Hp} {m : Nat} {acc : List UInt8} {z : Int} (hown : Own h m 5 1 s acc.length (acc.map u8)) (hf : Free h m) (hacc : acc.length ≤ 10000000000000) (b : UInt8) (hz : z = (b.toNat : Int))
    (hq : ∀ S H, Own H (m + 1 + 1) 5 1 S (acc ++ [b]).length ((acc ++ [b]).map u8) → ownId S = some (m + 1) → Free H (m + 1 + 1) → (∀ j, j < m → ownId s ≠ some j → H j = h j) → Ops env fn rnd Q ks ops rest (putT tm d S) H (m + 1 + 1)) :
    OpV env fn rnd Q ks ops rest d tm (bAppend env [23, 23] s (.sl m 0 1 (some 1) 1)) (upd h m (some (.row (.l [.int .u8 z]) 5))) (m + 1) := by
  subst hz
  refine own_append (i := ⟨.int .u8, 1, 1, .int .u8 0⟩) (e := 5) (e2 := 5) (xs := acc.map u8) (ys := [u8 b]) (cnt := acc.length) (k := 1) (hown.keep (by omega) fun j hj => by have := hown.id_lt hj; rw [upd_ne _ _ (by omega)]) rfl rfl ti5 (upd_same _ _ _) rfl (by decide) (by decide) rfl
    (fun e => by have := hown.id_lt e; omega) (by simp only [Nat.mul_one]; omega) (by omega) ?_
  intro S H ho hid hold
  refine hq S H (by rw [List.length_append, List.map_append]; exact ho) hid ?_ fun j hj hne => by rw [hold j (by omega) hne, upd_ne _ _ (by omega)]
  exact free_hold hf.new (fun j hj => by have := hown.id_lt hj; omega) hold
theorem own_cast {h : Hp} {n e sz c1 c2 : Nat} {v : AVal} {xs ys : List AVal} (ho : Own h n e sz v c1 xs) (h1 : c1 = c2) (h2 : xs = ys) : Own h n e sz v c2 ys := by
  subst h1; subst h2; exact ho
set_option maxHeartbeats 2000000 in
theorem loop10 (Q : Post0) (ks : List Kf) (a : AVal) (os : List OpD) (hb1 : os.length ≤ 100000000) (N : Nat) (h0 : Hp) (ha : OpsK N h0 a os)
    (hT : ∀ l, joinV os = some l → ∀ (out : AVal) (h : Hp) (n : Nat) (x0 x2 x3 x6 x7 x8 x9 x10 x11 x16 x24 x25 x26 : AVal), New5 h0 N l out h n → Kont env 10 none Q ks (.exit 0) (x0 :: AVal.junk :: x2 :: x3 :: out :: AVal.junk :: x6 :: x7 :: x8 :: x9 :: x10 :: x11 :: AVal.junk :: AVal.junk :: AVal.junk :: AVal.junk :: x16 :: AVal.junk :: AVal.junk :: AVal.junk :: AVal.junk :: AVal.junk :: AVal.junk :: AVal.junk :: x24 :: x25 :: x26 :: AVal.junk :: AVal.junk :: AVal.junk :: AVal.junk :: AVal.junk :: AVal.junk :: AVal.junk :: AVal.junk :: AVal.junk :: AVal.junk :: AVal.junk :: AVal.junk :: AVal.junk :: AVal.junk :: AVal.junk :: AVal.junk :: AVal.junk :: AVal.junk :: []) h n)
    (hF : joinV os = none → ∀ (h : Hp) (n : Nat) (x0 x4 x6 x7 x8 x9 x10 x11 x16 x24 x25 x26 : AVal), Old h0 h N → Kont env 10 none Q ks .ret (x0 :: AVal.junk :: .nils :: .int .i64 100 :: x4 :: AVal.junk :: x6 :: x7 :: x8 :: x9 :: x10 :: x11 :: AVal.junk :: AVal.junk :: AVal.junk :: AVal.junk :: x16 :: AVal.junk :: AVal.junk :: AVal.junk :: AVal.junk :: AVal.junk :: AVal.junk :: AVal.junk :: x24 :: x25 :: x26 :: AVal.junk :: AVal.junk :: AVal.junk :: AVal.junk :: AVal.junk :: AVal.junk :: AVal.junk :: AVal.junk :: AVal.junk :: AVal.junk :: AVal.junk :: AVal.junk :: AVal.junk :: AVal.junk :: AVal.junk :: AVal.junk :: AVal.junk :: AVal.junk :: []) h n) :
    ∀ (k i : Nat) (acc : List UInt8) (out : AVal) (h : Hp) (n : Nat) (x0 x2 x3 x6 x7 x11 x16 x24 x25 x26 : AVal), i + k = os.length → joinV os = (joinV (os.drop i)).map (acc ++ ·) → acc.length ≤ i * 70000 → N ≤ n → Free h n → Own h n 5 1 out acc.length (acc.map u8) → (∀ j, ownId out = some j → N ≤ j) → Old h0 h N →
    Run env 10 none Q (.loop lp10_0) ks (x0 :: AVal.junk :: x2 :: x3 :: out :: AVal.junk :: x6 :: x7 :: a :: .int .i64 (os.length : Nat) :: .int .i64 (i : Nat) :: x11 :: AVal.junk :: AVal.junk :: AVal.junk :: AVal.junk :: x16 :: AVal.junk :: AVal.junk :: AVal.junk :: AVal.junk :: AVal.junk :: AVal.junk :: AVal.junk :: x24 :: x25 :: x26 :: AVal.junk :: AVal.junk :: AVal.junk :: AVal.junk :: AVal.junk :: AVal.junk :: AVal.junk :: AVal.junk :: AVal.junk :: AVal.junk :: AVal.junk :: AVal.junk :: AVal.junk :: AVal.junk :: AVal.junk :: AVal.junk :: AVal.junk :: AVal.junk :: []) h n := by
  intro k
  induction k with
  | zero =>
    intro i acc out h n x0 x2 x3 x6 x7 x11 x16 x24 x25 x26 hi hj hacc hN hf hown hid ho
    have : i = os.length := by omega
    subst this
    rw [List.drop_length, joinV, Option.map_some, List.append_nil] at hj
    have hc : ¬ ((os.length : Nat) : Int) < ((os.length : Nat) : Int) := by omega
    rw [run_loop]
    simp only [lp10_0, loopsOf, Try.f10, Option.getD_some, core1, cont_block_any, opg_un, u8, tyr, fgr, hkr, execOp, opd, opds, opt, ofValue, ofArr, ofList, ops2, putT, put, nth, forgetL, doCall, callV_func, builtin, one1, two2, some1, foldM2, min2, max2, blr, bCopy, intB, und, sizeOf, zeroOf, lenOf, bor, binInt, binOther, shiftB, shiftOp, intOp, wrapI, strOp, strK, intK, slK, aggK, unOp, doPick, branch, idx, readCells, cellsOf, oneOf, aggB, cel, alloc, doAlloc, newRow, nilCheck, extract, getO, ended, resultOf, oneOrTup, rowK, loopK, moved, fieldAddr, field, part, index, sameSz, equalTop, equal, nilFn, nilPtr, nilSl1, nilSl2, nilSl3, boolOf, List.getElem?_cons_succ, List.getElem?_cons_zero, List.append_eq, List.cons_append, List.nil_append, List.append_nil, List.length_cons, List.length_nil, Nat.reduceAdd, Nat.reduceSub, Nat.beq, Option.bind_some, nc0, nc1, Int.cast_ofNat_Int, int_beq, int_bne, str_beq, ↓reduceIte, Int.reduceEq, Int.reduceLT, Int.reduceLE, Int.reduceNe, Int.reduceAdd, Int.reduceSub, Int.reduceMul, Int.reduceNeg, Int.reduceGT, Int.reduceGE, ge_iff_le, gt_iff_lt, not_true_eq_false, not_false_eq_true, decide_not, decide_true, decide_false, Bool.not_true, Bool.not_false, Bool.and_true, Bool.true_and, Bool.and_false, Bool.false_and, Bool.or_true, Bool.true_or, Bool.or_false, Bool.false_or, and_true, true_and, and_self, Nat.zero_add, Nat.add_zero, Int.toNat_zero, Nat.zero_mul, wp_pure, beq_self_eq_true, bne_self_eq_false, reduceCtorEq, List.getD_cons_zero, List.getD_cons_succ, hc]
    exact hT acc hj out h n _ _ _ _ _ _ _ _ _ _ _ _ _ ⟨_, hown, hid, ho⟩
  | succ k ih =>
    intro i acc out h n x0 x2 x3 x6 x7 x11 x16 x24 x25 x26 hi hj hacc hN hf hown hid ho
    have h1 : i < os.length := by omega
    have hc : ((i : Nat) : Int) < ((os.length : Nat) : Int) := by omega
    have hw : IntKind.i64.wrap (((i : Nat) : Int) + 1) = ((i + 1 : Nat) : Int) := by rw [w64 (by omega) (by omega)]; omega
    obtain ⟨p, p0, p1, da, ids, A⟩ := (ha h n hN ho).at_ i h1
    have ka := A.bytes.kind
    rw [run_loop]
    simp only [lp10_0, loopsOf, Try.f10, Option.getD_some, core1, cont_block_any, opg_un, u8, tyr, fgr, hkr, execOp, opd, opds, opt, ofValue, ofArr, ofList, ops2, putT, put, nth, forgetL, doCall, callV_func, builtin, one1, two2, some1, foldM2, min2, max2, blr, bCopy, intB, und, sizeOf, zeroOf, lenOf, bor, binInt, binOther, shiftB, shiftOp, intOp, wrapI, strOp, strK, intK, slK, aggK, unOp, doPick, branch, idx, readCells, cellsOf, oneOf, aggB, cel, alloc, doAlloc, newRow, nilCheck, extract, getO, ended, resultOf, oneOrTup, rowK, loopK, moved, fieldAddr, field, part, index, sameSz, equalTop, equal, nilFn, nilPtr, nilSl1, nilSl2, nilSl3, boolOf, List.getElem?_cons_succ, List.getElem?_cons_zero, List.append_eq, List.cons_append, List.nil_append, List.append_nil, List.length_cons, List.length_nil, Nat.reduceAdd, Nat.reduceSub, Nat.beq, Option.bind_some, nc0, nc1, Int.cast_ofNat_Int, int_beq, int_bne, str_beq, ↓reduceIte, Int.reduceEq, Int.reduceLT, Int.reduceLE, Int.reduceNe, Int.reduceAdd, Int.reduceSub, Int.reduceMul, Int.reduceNeg, Int.reduceGT, Int.reduceGE, ge_iff_le, gt_iff_lt, not_true_eq_false, not_false_eq_true, decide_not, decide_true, decide_false, Bool.not_true, Bool.not_false, Bool.and_true, Bool.true_and, Bool.and_false, Bool.false_and, Bool.or_true, Bool.true_or, Bool.or_false, Bool.false_or, and_true, true_and, and_self, Nat.zero_add, Nat.add_zero, Int.toNat_zero, Nat.zero_mul, wp_pure, beq_self_eq_true, bne_self_eq_false, reduceCtorEq, List.getD_cons_zero, List.getD_cons_succ, hc]
    rw [opv_rd (A.ix _ _)]
    simp only [core1, cont_block_any, opg_un, u8, tyr, fgr, hkr, execOp, opd, opds, opt, ofValue, ofArr, ofList, ops2, putT, put, nth, forgetL, doCall, callV_func, builtin, one1, two2, some1, foldM2, min2, max2, blr, bCopy, intB, und, sizeOf, zeroOf, lenOf, bor, binInt, binOther, shiftB, shiftOp, intOp, wrapI, strOp, strK, intK, slK, aggK, unOp, doPick, branch, idx, readCells, cellsOf, oneOf, aggB, cel, alloc, doAlloc, newRow, nilCheck, extract, getO, ended, resultOf, oneOrTup, rowK, loopK, moved, fieldAddr, field, part, index, sameSz, equalTop, equal, nilFn, nilPtr, nilSl1, nilSl2, nilSl3, boolOf, List.getElem?_cons_succ, List.getElem?_cons_zero, List.append_eq, List.cons_append, List.nil_append, List.append_nil, List.length_cons, List.length_nil, Nat.reduceAdd, Nat.reduceSub, Nat.beq, Option.bind_some, nc0, nc1, Int.cast_ofNat_Int, int_beq, int_bne, str_beq, ↓reduceIte, Int.reduceEq, Int.reduceLT, Int.reduceLE, Int.reduceNe, Int.reduceAdd, Int.reduceSub, Int.reduceMul, Int.reduceNeg, Int.reduceGT, Int.reduceGE, ge_iff_le, gt_iff_lt, not_true_eq_false, not_false_eq_true, decide_not, decide_true, decide_false, Bool.not_true, Bool.not_false, Bool.and_true, Bool.true_and, Bool.and_false, Bool.false_and, Bool.or_true, Bool.true_or, Bool.or_false, Bool.false_or, and_true, true_and, and_self, Nat.zero_add, Nat.add_zero, Int.toNat_zero, Nat.zero_mul, wp_pure, beq_self_eq_true, bne_self_eq_false, reduceCtorEq, buildSlice, build, reps, fill, sizesOf, List.take_succ_cons, List.take_zero, List.drop_succ_cons, List.drop_zero, Nat.reduceMul, Nat.ble, Nat.reduceLeDiff, Nat.mul_one, Nat.one_mul, writeCells, setAll, Cont.size, Cont.set, Cont.at, Cont.sub, upd_same, upd_ne, List.all_cons, List.all_nil, Option.some.injEq, exists_eq_left', Int.reduceToNat, ne_eq, and_true, true_and, List.length_cons, List.length_nil, Nat.mul_zero, Nat.zero_mul]
    rw [opv_rd A.both]
    simp (disch := omega) only [core1, cont_block_any, opg_un, u8, tyr, fgr, hkr, execOp, opd, opds, opt, ofValue, ofArr, ofList, ops2, putT, put, nth, forgetL, doCall, callV_func, builtin, one1, two2, some1, foldM2, min2, max2, blr, bCopy, intB, und, sizeOf, zeroOf, lenOf, bor, binInt, binOther, shiftB, shiftOp, intOp, wrapI, strOp, strK, intK, slK, aggK, unOp, doPick, branch, idx, readCells, cellsOf, oneOf, aggB, cel, alloc, doAlloc, newRow, nilCheck, extract, getO, ended, resultOf, oneOrTup, rowK, loopK, moved, fieldAddr, field, part, index, sameSz, equalTop, equal, nilFn, nilPtr, nilSl1, nilSl2, nilSl3, boolOf, List.getElem?_cons_succ, List.getElem?_cons_zero, List.append_eq, List.cons_append, List.nil_append, List.append_nil, List.length_cons, List.length_nil, Nat.reduceAdd, Nat.reduceSub, Nat.beq, Option.bind_some, nc0, nc1, Int.cast_ofNat_Int, int_beq, int_bne, str_beq, ↓reduceIte, Int.reduceEq, Int.reduceLT, Int.reduceLE, Int.reduceNe, Int.reduceAdd, Int.reduceSub, Int.reduceMul, Int.reduceNeg, Int.reduceGT, Int.reduceGE, ge_iff_le, gt_iff_lt, not_true_eq_false, not_false_eq_true, decide_not, decide_true, decide_false, Bool.not_true, Bool.not_false, Bool.and_true, Bool.true_and, Bool.and_false, Bool.false_and, Bool.or_true, Bool.true_or, Bool.or_false, Bool.false_or, and_true, true_and, and_self, Nat.zero_add, Nat.add_zero, Int.toNat_zero, Nat.zero_mul, wp_pure, beq_self_eq_true, bne_self_eq_false, reduceCtorEq, memr, buildSlice, build, reps, fill, sizesOf, List.take_succ_cons, List.take_zero, List.drop_succ_cons, List.drop_zero, Nat.reduceMul, Nat.ble, Nat.reduceLeDiff, Nat.mul_one, Nat.one_mul, writeCells, setAll, Cont.size, Cont.set, Cont.at, Cont.sub, upd_same, upd_ne, List.all_cons, List.all_nil, Option.some.injEq, exists_eq_left', Int.reduceToNat, ne_eq, and_true, true_and, List.length_cons, List.length_nil, Nat.mul_zero, Nat.zero_mul, ka]
    obtain ⟨G, hG⟩ : ∃ G, G = upd (upd h n (some (Blk.row (Cont.l [AVal.int IntKind.u8 0, AVal.nils]) 32))) n (some (Blk.row (Cont.l [AVal.int IntKind.u8 (os[i].1.toNat : Int), da]) 32)) := ⟨_, rfl⟩
    rw [← hG]
    have gN : ∀ j, j < n → G j = h j := fun j hj => by rw [hG, upd_ne _ _ (by omega), upd_ne _ _ (by omega)]
    have fG : Free G (n + 1) := by rw [hG]; exact hf.new.upd (by omega)
    have kG : G n = some (Blk.row (Cont.l [AVal.int IntKind.u8 (os[i].1.toNat : Int), da]) 32) := by rw [hG]; exact upd_same _ _ _
    have dN : ∀ j, ownId da = some j → j < N := fun j hj => below_own A.below hj
    have dG : Bytes G da os[i].2 := A.bytes.keep fun j hj => gN j (by have := dN j hj; omega)
    refine opv_callf fG (f28 os[i].1 da os[i].2 G (n + 1) dG) fun v1 h1' n1 hn1 hf1 ⟨e1, old1⟩ => ?_
    subst e1
    have oN : ∀ j, j < n → h1' j = h j := fun j hj => (old1 j (by omega)).trans (gN j hj)
    have o1 : Old h0 h1' N := ho.trans (fun j hj => oN j (by omega)) (Nat.le_refl _)
    have k1 : h1' n = some (Blk.row (Cont.l [AVal.int IntKind.u8 (os[i].1.toNat : Int), da]) 32) := (old1 n (by omega)).trans kG
    rw [join_at h1] at hj
    cases hm : mayV os[i].1 os[i].2.length with
    | false =>
      rw [hm] at hj
      simp only [core1, cont_block_any, opg_un, u8, tyr, fgr, hkr, execOp, opd, opds, opt, ofValue, ofArr, ofList, ops2, putT, put, nth, forgetL, doCall, callV_func, builtin, one1, two2, some1, foldM2, min2, max2, blr, bCopy, intB, und, sizeOf, zeroOf, lenOf, bor, binInt, binOther, shiftB, shiftOp, intOp, wrapI, strOp, strK, intK, slK, aggK, unOp, doPick, branch, idx, readCells, cellsOf, oneOf, aggB, cel, alloc, doAlloc, newRow, nilCheck, extract, getO, ended, resultOf, oneOrTup, rowK, loopK, moved, fieldAddr, field, part, index, sameSz, equalTop, equal, nilFn, nilPtr, nilSl1, nilSl2, nilSl3, boolOf, List.getElem?_cons_succ, List.getElem?_cons_zero, List.append_eq, List.cons_append, List.nil_append, List.append_nil, List.length_cons, List.length_nil, Nat.reduceAdd, Nat.reduceSub, Nat.beq, Option.bind_some, nc0, nc1, Int.cast_ofNat_Int, int_beq, int_bne, str_beq, ↓reduceIte, Int.reduceEq, Int.reduceLT, Int.reduceLE, Int.reduceNe, Int.reduceAdd, Int.reduceSub, Int.reduceMul, Int.reduceNeg, Int.reduceGT, Int.reduceGE, ge_iff_le, gt_iff_lt, not_true_eq_false, not_false_eq_true, decide_not, decide_true, decide_false, Bool.not_true, Bool.not_false, Bool.and_true, Bool.true_and, Bool.and_false, Bool.false_and, Bool.or_true, Bool.true_or, Bool.or_false, Bool.false_or, and_true, true_and, and_self, Nat.zero_add, Nat.add_zero, Int.toNat_zero, Nat.zero_mul, wp_pure, beq_self_eq_true, bne_self_eq_false, reduceCtorEq]
      exact hF (by rw [hj]; rfl) h1' n1 _ _ _ _ _ _ _ _ _ _ _ _ o1
    | true =>
      rw [hm, if_pos rfl] at hj
      have hml := may_len hm
      have hcl := os[i].1.toNat_lt
      have d1 : Bytes h1' da os[i].2 := A.bytes.keep fun j hj => oN j (by have := dN j hj; omega)
      have hown1 : Own h1' n1 5 1 out acc.length (acc.map u8) := hown.keep (by omega) fun j hj => oN j (hown.id_lt hj)
      simp (disch := omega) only [core1, cont_block_any, opg_un, u8, tyr, fgr, hkr, execOp, opd, opds, opt, ofValue, ofArr, ofList, ops2, putT, put, nth, forgetL, doCall, callV_func, builtin, one1, two2, some1, foldM2, min2, max2, blr, bCopy, intB, und, sizeOf, zeroOf, lenOf, bor, binInt, binOther, shiftB, shiftOp, intOp, wrapI, strOp, strK, intK, slK, aggK, unOp, doPick, branch, idx, readCells, cellsOf, oneOf, aggB, cel, alloc, doAlloc, newRow, nilCheck, extract, getO, ended, resultOf, oneOrTup, rowK, loopK, moved, fieldAddr, field, part, index, sameSz, equalTop, equal, nilFn, nilPtr, nilSl1, nilSl2, nilSl3, boolOf, List.getElem?_cons_succ, List.getElem?_cons_zero, List.append_eq, List.cons_append, List.nil_append, List.append_nil, List.length_cons, List.length_nil, Nat.reduceAdd, Nat.reduceSub, Nat.beq, Option.bind_some, nc0, nc1, Int.cast_ofNat_Int, int_beq, int_bne, str_beq, ↓reduceIte, Int.reduceEq, Int.reduceLT, Int.reduceLE, Int.reduceNe, Int.reduceAdd, Int.reduceSub, Int.reduceMul, Int.reduceNeg, Int.reduceGT, Int.reduceGE, ge_iff_le, gt_iff_lt, not_true_eq_false, not_false_eq_true, decide_not, decide_true, decide_false, Bool.not_true, Bool.not_false, Bool.and_true, Bool.true_and, Bool.and_false, Bool.false_and, Bool.or_true, Bool.true_or, Bool.or_false, Bool.false_or, and_true, true_and, and_self, Nat.zero_add, Nat.add_zero, Int.toNat_zero, Nat.zero_mul, wp_pure, beq_self_eq_true, bne_self_eq_false, reduceCtorEq, memr, buildSlice, build, reps, fill, sizesOf, List.take_succ_cons, List.take_zero, List.drop_succ_cons, List.drop_zero, Nat.reduceMul, Nat.ble, Nat.reduceLeDiff, Nat.mul_one, Nat.one_mul, writeCells, setAll, Cont.size, Cont.set, Cont.at, Cont.sub, upd_same, upd_ne, List.all_cons, List.all_nil, Option.some.injEq, exists_eq_left', Int.reduceToNat, ne_eq, and_true, true_and, List.length_cons, List.length_nil, Nat.mul_zero, Nat.zero_mul, k1]
      refine push_byte hown1 hf1 (by omega) os[i].1 rfl fun S H ho2 hid2 hf2 hold2 => ?_
      have dn2 : ∀ j, ownId da = some j → ownId out ≠ some j := fun j hj e => by have := hid j e; have := dN j hj; omega
      have d2 : Bytes H da os[i].2 := d1.keep fun j hj => hold2 j (by have := dN j hj; omega) (dn2 j hj)
      have k2 : H n = some (Blk.row (Cont.l [AVal.int IntKind.u8 (os[i].1.toNat : Int), da]) 32) := (hold2 n (by omega) (fun e => by have := hown.id_lt e; omega)).trans k1
      have oo2 : Old h0 H N := o1.trans (fun j hj => hold2 j (by omega) (fun e => by have := hid j e; omega)) (Nat.le_refl _)
      simp (disch := omega) only [core1, cont_block_any, opg_un, u8, tyr, fgr, hkr, execOp, opd, opds, opt, ofValue, ofArr, ofList, ops2, putT, put, nth, forgetL, doCall, callV_func, builtin, one1, two2, some1, foldM2, min2, max2, blr, bCopy, intB, und, sizeOf, zeroOf, lenOf, bor, binInt, binOther, shiftB, shiftOp, intOp, wrapI, strOp, strK, intK, slK, aggK, unOp, doPick, branch, idx, readCells, cellsOf, oneOf, aggB, cel, alloc, doAlloc, newRow, nilCheck, extract, getO, ended, resultOf, oneOrTup, rowK, loopK, moved, fieldAddr, field, part, index, sameSz, equalTop, equal, nilFn, nilPtr, nilSl1, nilSl2, nilSl3, boolOf, List.getElem?_cons_succ, List.getElem?_cons_zero, List.append_eq, List.cons_append, List.nil_append, List.append_nil, List.length_cons, List.length_nil, Nat.reduceAdd, Nat.reduceSub, Nat.beq, Option.bind_some, nc0, nc1, Int.cast_ofNat_Int, int_beq, int_bne, str_beq, ↓reduceIte, Int.reduceEq, Int.reduceLT, Int.reduceLE, Int.reduceNe, Int.reduceAdd, Int.reduceSub, Int.reduceMul, Int.reduceNeg, Int.reduceGT, Int.reduceGE, ge_iff_le, gt_iff_lt, not_true_eq_false, not_false_eq_true, decide_not, decide_true, decide_false, Bool.not_true, Bool.not_false, Bool.and_true, Bool.true_and, Bool.and_false, Bool.false_and, Bool.or_true, Bool.true_or, Bool.or_false, Bool.false_or, and_true, true_and, and_self, Nat.zero_add, Nat.add_zero, Int.toNat_zero, Nat.zero_mul, wp_pure, beq_self_eq_true, bne_self_eq_false, reduceCtorEq, memr, buildSlice, build, reps, fill, sizesOf, List.take_succ_cons, List.take_zero, List.drop_succ_cons, List.drop_zero, Nat.reduceMul, Nat.ble, Nat.reduceLeDiff, Nat.mul_one, Nat.one_mul, writeCells, setAll, Cont.size, Cont.set, Cont.at, Cont.sub, upd_same, upd_ne, List.all_cons, List.all_nil, Option.some.injEq, exists_eq_left', Int.reduceToNat, ne_eq, and_true, true_and, List.length_cons, List.length_nil, Nat.mul_zero, Nat.zero_mul, k2, opv_det (f29 _ _ _), head_sz]
      have hbl := opB_len (c := os[i].1) (l := os[i].2)
      have hlen : ∀ {ts : List TypeId} {g : Hp} (hb : Bytes g da os[i].2), bLen env (23 :: ts) da = M.pure (.int .i64 (os[i].2.length : Nat)) := fun hb => hb.bLen t23
      have hcase : (os[i].1.toNat = 77 ∧ szV os[i].1 = 2 ∧ lenB os[i].1 os[i].2.length = [UInt8.ofNat os[i].2.length, UInt8.ofNat (os[i].2.length / 256)]) ∨ (os[i].1.toNat = 76 ∧ szV os[i].1 = 1 ∧ lenB os[i].1 os[i].2.length = [UInt8.ofNat os[i].2.length]) ∨ (szV os[i].1 = 0 ∧ lenB os[i].1 os[i].2.length = []) := by
        by_cases c7 : os[i].1.toNat = 77
        · exact .inl ⟨c7, by simp [szV, c7], by simp [lenB, c7]⟩
        · by_cases c6 : os[i].1.toNat = 76
          · exact .inr (.inl ⟨c6, by simp [szV, c6], by simp [lenB, c6]⟩)
          · exact .inr (.inr ⟨by simp [szV, c6, c7], by simp [lenB, c6, c7]⟩)
      rcases hcase with ⟨c1, c2, c3⟩ | ⟨c1, c2, c3⟩ | ⟨c2, c3⟩
      case' inl =>
        rw [c2, run_loop]
        simp (disch := omega) only [core1, cont_block_any, opg_un, u8, tyr, fgr, hkr, execOp, opd, opds, opt, ofValue, ofArr, ofList, ops2, putT, put, nth, forgetL, doCall, callV_func, builtin, one1, two2, some1, foldM2, min2, max2, blr, bCopy, intB, und, sizeOf, zeroOf, lenOf, bor, binInt, binOther, shiftB, shiftOp, intOp, wrapI, strOp, strK, intK, slK, aggK, unOp, doPick, branch, idx, readCells, cellsOf, oneOf, aggB, cel, alloc, doAlloc, newRow, nilCheck, extract, getO, ended, resultOf, oneOrTup, rowK, loopK, moved, fieldAddr, field, part, index, sameSz, equalTop, equal, nilFn, nilPtr, nilSl1, nilSl2, nilSl3, boolOf, List.getElem?_cons_succ, List.getElem?_cons_zero, List.append_eq, List.cons_append, List.nil_append, List.append_nil, List.length_cons, List.length_nil, Nat.reduceAdd, Nat.reduceSub, Nat.beq, Option.bind_some, nc0, nc1, Int.cast_ofNat_Int, int_beq, int_bne, str_beq, ↓reduceIte, Int.reduceEq, Int.reduceLT, Int.reduceLE, Int.reduceNe, Int.reduceAdd, Int.reduceSub, Int.reduceMul, Int.reduceNeg, Int.reduceGT, Int.reduceGE, ge_iff_le, gt_iff_lt, not_true_eq_false, not_false_eq_true, decide_not, decide_true, decide_false, Bool.not_true, Bool.not_false, Bool.and_true, Bool.true_and, Bool.and_false, Bool.false_and, Bool.or_true, Bool.true_or, Bool.or_false, Bool.false_or, and_true, true_and, and_self, Nat.zero_add, Nat.add_zero, Int.toNat_zero, Nat.zero_mul, wp_pure, beq_self_eq_true, bne_self_eq_false, reduceCtorEq, memr, buildSlice, build, reps, fill, sizesOf, List.take_succ_cons, List.take_zero, List.drop_succ_cons, List.drop_zero, Nat.reduceMul, Nat.ble, Nat.reduceLeDiff, Nat.mul_one, Nat.one_mul, writeCells, setAll, Cont.size, Cont.set, Cont.at, Cont.sub, upd_same, upd_ne, List.all_cons, List.all_nil, Option.some.injEq, exists_eq_left', Int.reduceToNat, ne_eq, and_true, true_and, List.length_cons, List.length_nil, Nat.mul_zero, Nat.zero_mul, convert, convStr, isU8, k2, hlen d2, w64, pw0, fdiv_one, lo_byte]
        refine push_byte ho2 hf2 (by simp only [List.length_append, List.length_singleton]; omega) (UInt8.ofNat os[i].2.length) rfl fun S H ho2 hid2' hf2 hold3 => ?_
        have d2 : Bytes H da os[i].2 := d2.keep fun j hj => hold3 j (by have := dN j hj; omega) (fun e => by rw [hid2] at e; injection e with e; have := dN j hj; omega)
        have k2 : H n = some (Blk.row (Cont.l [AVal.int IntKind.u8 (os[i].1.toNat : Int), da]) 32) := (hold3 n (by omega) (fun e => by rw [hid2] at e; injection e with e; omega)).trans k2
        have oo2 : Old h0 H N := oo2.trans (fun j hj => hold3 j (by omega) (fun e => by rw [hid2] at e; injection e with e; omega)) (Nat.le_refl _)
        have hid2 := hid2'
        simp (disch := omega) only [core1, cont_block_any, opg_un, u8, tyr, fgr, hkr, execOp, opd, opds, opt, ofValue, ofArr, ofList, ops2, putT, put, nth, forgetL, doCall, callV_func, builtin, one1, two2, some1, foldM2, min2, max2, blr, bCopy, intB, und, sizeOf, zeroOf, lenOf, bor, binInt, binOther, shiftB, shiftOp, intOp, wrapI, strOp, strK, intK, slK, aggK, unOp, doPick, branch, idx, readCells, cellsOf, oneOf, aggB, cel, alloc, doAlloc, newRow, nilCheck, extract, getO, ended, resultOf, oneOrTup, rowK, loopK, moved, fieldAddr, field, part, index, sameSz, equalTop, equal, nilFn, nilPtr, nilSl1, nilSl2, nilSl3, boolOf, List.getElem?_cons_succ, List.getElem?_cons_zero, List.append_eq, List.cons_append, List.nil_append, List.append_nil, List.length_cons, List.length_nil, Nat.reduceAdd, Nat.reduceSub, Nat.beq, Option.bind_some, nc0, nc1, Int.cast_ofNat_Int, int_beq, int_bne, str_beq, ↓reduceIte, Int.reduceEq, Int.reduceLT, Int.reduceLE, Int.reduceNe, Int.reduceAdd, Int.reduceSub, Int.reduceMul, Int.reduceNeg, Int.reduceGT, Int.reduceGE, ge_iff_le, gt_iff_lt, not_true_eq_false, not_false_eq_true, decide_not, decide_true, decide_false, Bool.not_true, Bool.not_false, Bool.and_true, Bool.true_and, Bool.and_false, Bool.false_and, Bool.or_true, Bool.true_or, Bool.or_false, Bool.false_or, and_true, true_and, and_self, Nat.zero_add, Nat.add_zero, Int.toNat_zero, Nat.zero_mul, wp_pure, beq_self_eq_true, bne_self_eq_false, reduceCtorEq, memr, buildSlice, build, reps, fill, sizesOf, List.take_succ_cons, List.take_zero, List.drop_succ_cons, List.drop_zero, Nat.reduceMul, Nat.ble, Nat.reduceLeDiff, Nat.mul_one, Nat.one_mul, writeCells, setAll, Cont.size, Cont.set, Cont.at, Cont.sub, upd_same, upd_ne, List.all_cons, List.all_nil, Option.some.injEq, exists_eq_left', Int.reduceToNat, ne_eq, and_true, true_and, List.length_cons, List.length_nil, Nat.mul_zero, Nat.zero_mul, convert, convStr, isU8, w64]
        rw [run_loop]
        simp (disch := omega) only [core1, cont_block_any, opg_un, u8, tyr, fgr, hkr, execOp, opd, opds, opt, ofValue, ofArr, ofList, ops2, putT, put, nth, forgetL, doCall, callV_func, builtin, one1, two2, some1, foldM2, min2, max2, blr, bCopy, intB, und, sizeOf, zeroOf, lenOf, bor, binInt, binOther, shiftB, shiftOp, intOp, wrapI, strOp, strK, intK, slK, aggK, unOp, doPick, branch, idx, readCells, cellsOf, oneOf, aggB, cel, alloc, doAlloc, newRow, nilCheck, extract, getO, ended, resultOf, oneOrTup, rowK, loopK, moved, fieldAddr, field, part, index, sameSz, equalTop, equal, nilFn, nilPtr, nilSl1, nilSl2, nilSl3, boolOf, List.getElem?_cons_succ, List.getElem?_cons_zero, List.append_eq, List.cons_append, List.nil_append, List.append_nil, List.length_cons, List.length_nil, Nat.reduceAdd, Nat.reduceSub, Nat.beq, Option.bind_some, nc0, nc1, Int.cast_ofNat_Int, int_beq, int_bne, str_beq, ↓reduceIte, Int.reduceEq, Int.reduceLT, Int.reduceLE, Int.reduceNe, Int.reduceAdd, Int.reduceSub, Int.reduceMul, Int.reduceNeg, Int.reduceGT, Int.reduceGE, ge_iff_le, gt_iff_lt, not_true_eq_false, not_false_eq_true, decide_not, decide_true, decide_false, Bool.not_true, Bool.not_false, Bool.and_true, Bool.true_and, Bool.and_false, Bool.false_and, Bool.or_true, Bool.true_or, Bool.or_false, Bool.false_or, and_true, true_and, and_self, Nat.zero_add, Nat.add_zero, Int.toNat_zero, Nat.zero_mul, wp_pure, beq_self_eq_true, bne_self_eq_false, reduceCtorEq, memr, buildSlice, build, reps, fill, sizesOf, List.take_succ_cons, List.take_zero, List.drop_succ_cons, List.drop_zero, Nat.reduceMul, Nat.ble, Nat.reduceLeDiff, Nat.mul_one, Nat.one_mul, writeCells, setAll, Cont.size, Cont.set, Cont.at, Cont.sub, upd_same, upd_ne, List.all_cons, List.all_nil, Option.some.injEq, exists_eq_left', Int.reduceToNat, ne_eq, and_true, true_and, List.length_cons, List.length_nil, Nat.mul_zero, Nat.zero_mul, convert, convStr, isU8, k2, hlen d2, w64, pw8, fdiv_byte, Int.reduceToNat]
        refine push_byte ho2 hf2 (by simp only [List.length_append, List.length_singleton]; omega) (UInt8.ofNat (os[i].2.length / 256)) rfl fun S H ho2 hid2' hf2 hold3 => ?_
        have d2 : Bytes H da os[i].2 := d2.keep fun j hj => hold3 j (by have := dN j hj; omega) (fun e => by rw [hid2] at e; injection e with e; have := dN j hj; omega)
        have k2 : H n = some (Blk.row (Cont.l [AVal.int IntKind.u8 (os[i].1.toNat : Int), da]) 32) := (hold3 n (by omega) (fun e => by rw [hid2] at e; injection e with e; omega)).trans k2
        have oo2 : Old h0 H N := oo2.trans (fun j hj => hold3 j (by omega) (fun e => by rw [hid2] at e; injection e with e; omega)) (Nat.le_refl _)
        have hid2 := hid2'
        simp (disch := omega) only [core1, cont_block_any, opg_un, u8, tyr, fgr, hkr, execOp, opd, opds, opt, ofValue, ofArr, ofList, ops2, putT, put, nth, forgetL, doCall, callV_func, builtin, one1, two2, some1, foldM2, min2, max2, blr, bCopy, intB, und, sizeOf, zeroOf, lenOf, bor, binInt, binOther, shiftB, shiftOp, intOp, wrapI, strOp, strK, intK, slK, aggK, unOp, doPick, branch, idx, readCells, cellsOf, oneOf, aggB, cel, alloc, doAlloc, newRow, nilCheck, extract, getO, ended, resultOf, oneOrTup, rowK, loopK, moved, fieldAddr, field, part, index, sameSz, equalTop, equal, nilFn, nilPtr, nilSl1, nilSl2, nilSl3, boolOf, List.getElem?_cons_succ, List.getElem?_cons_zero, List.append_eq, List.cons_append, List.nil_append, List.append_nil, List.length_cons, List.length_nil, Nat.reduceAdd, Nat.reduceSub, Nat.beq, Option.bind_some, nc0, nc1, Int.cast_ofNat_Int, int_beq, int_bne, str_beq, ↓reduceIte, Int.reduceEq, Int.reduceLT, Int.reduceLE, Int.reduceNe, Int.reduceAdd, Int.reduceSub, Int.reduceMul, Int.reduceNeg, Int.reduceGT, Int.reduceGE, ge_iff_le, gt_iff_lt, not_true_eq_false, not_false_eq_true, decide_not, decide_true, decide_false, Bool.not_true, Bool.not_false, Bool.and_true, Bool.true_and, Bool.and_false, Bool.false_and, Bool.or_true, Bool.true_or, Bool.or_false, Bool.false_or, and_true, true_and, and_self, Nat.zero_add, Nat.add_zero, Int.toNat_zero, Nat.zero_mul, wp_pure, beq_self_eq_true, bne_self_eq_false, reduceCtorEq, memr, buildSlice, build, reps, fill, sizesOf, List.take_succ_cons, List.take_zero, List.drop_succ_cons, List.drop_zero, Nat.reduceMul, Nat.ble, Nat.reduceLeDiff, Nat.mul_one, Nat.one_mul, writeCells, setAll, Cont.size, Cont.set, Cont.at, Cont.sub, upd_same, upd_ne, List.all_cons, List.all_nil, Option.some.injEq, exists_eq_left', Int.reduceToNat, ne_eq, and_true, true_and, List.length_cons, List.length_nil, Nat.mul_zero, Nat.zero_mul, convert, convStr, isU8, w64]
        rw [run_loop]
        simp (disch := omega) only [core1, cont_block_any, opg_un, u8, tyr, fgr, hkr, execOp, opd, opds, opt, ofValue, ofArr, ofList, ops2, putT, put, nth, forgetL, doCall, callV_func, builtin, one1, two2, some1, foldM2, min2, max2, blr, bCopy, intB, und, sizeOf, zeroOf, lenOf, bor, binInt, binOther, shiftB, shiftOp, intOp, wrapI, strOp, strK, intK, slK, aggK, unOp, doPick, branch, idx, readCells, cellsOf, oneOf, aggB, cel, alloc, doAlloc, newRow, nilCheck, extract, getO, ended, resultOf, oneOrTup, rowK, loopK, moved, fieldAddr, field, part, index, sameSz, equalTop, equal, nilFn, nilPtr, nilSl1, nilSl2, nilSl3, boolOf, List.getElem?_cons_succ, List.getElem?_cons_zero, List.append_eq, List.cons_append, List.nil_append, List.append_nil, List.length_cons, List.length_nil, Nat.reduceAdd, Nat.reduceSub, Nat.beq, Option.bind_some, nc0, nc1, Int.cast_ofNat_Int, int_beq, int_bne, str_beq, ↓reduceIte, Int.reduceEq, Int.reduceLT, Int.reduceLE, Int.reduceNe, Int.reduceAdd, Int.reduceSub, Int.reduceMul, Int.reduceNeg, Int.reduceGT, Int.reduceGE, ge_iff_le, gt_iff_lt, not_true_eq_false, not_false_eq_true, decide_not, decide_true, decide_false, Bool.not_true, Bool.not_false, Bool.and_true, Bool.true_and, Bool.and_false, Bool.false_and, Bool.or_true, Bool.true_or, Bool.or_false, Bool.false_or, and_true, true_and, and_self, Nat.zero_add, Nat.add_zero, Int.toNat_zero, Nat.zero_mul, wp_pure, beq_self_eq_true, bne_self_eq_false, reduceCtorEq, memr, buildSlice, build, reps, fill, sizesOf, List.take_succ_cons, List.take_zero, List.drop_succ_cons, List.drop_zero, Nat.reduceMul, Nat.ble, Nat.reduceLeDiff, Nat.mul_one, Nat.one_mul, writeCells, setAll, Cont.size, Cont.set, Cont.at, Cont.sub, upd_same, upd_ne, List.all_cons, List.all_nil, Option.some.injEq, exists_eq_left', Int.reduceToNat, ne_eq, and_true, true_and, List.length_cons, List.length_nil, Nat.mul_zero, Nat.zero_mul, convert, convStr, isU8, k2]
        have hO : ∃ M, n1 + 1 + 1 ≤ M ∧ M = n1 + 1 + 1 + 1 + 1 + 1 + 1 := ⟨_, by omega, rfl⟩
        obtain ⟨M, hM1, hM⟩ := hO
        rw [← hM] at ho2 hf2 ⊢
      case' inr.inl =>
        rw [c2, run_loop]
        simp (disch := omega) only [core1, cont_block_any, opg_un, u8, tyr, fgr, hkr, execOp, opd, opds, opt, ofValue, ofArr, ofList, ops2, putT, put, nth, forgetL, doCall, callV_func, builtin, one1, two2, some1, foldM2, min2, max2, blr, bCopy, intB, und, sizeOf, zeroOf, lenOf, bor, binInt, binOther, shiftB, shiftOp, intOp, wrapI, strOp, strK, intK, slK, aggK, unOp, doPick, branch, idx, readCells, cellsOf, oneOf, aggB, cel, alloc, doAlloc, newRow, nilCheck, extract, getO, ended, resultOf, oneOrTup, rowK, loopK, moved, fieldAddr, field, part, index, sameSz, equalTop, equal, nilFn, nilPtr, nilSl1, nilSl2, nilSl3, boolOf, List.getElem?_cons_succ, List.getElem?_cons_zero, List.append_eq, List.cons_append, List.nil_append, List.append_nil, List.length_cons, List.length_nil, Nat.reduceAdd, Nat.reduceSub, Nat.beq, Option.bind_some, nc0, nc1, Int.cast_ofNat_Int, int_beq, int_bne, str_beq, ↓reduceIte, Int.reduceEq, Int.reduceLT, Int.reduceLE, Int.reduceNe, Int.reduceAdd, Int.reduceSub, Int.reduceMul, Int.reduceNeg, Int.reduceGT, Int.reduceGE, ge_iff_le, gt_iff_lt, not_true_eq_false, not_false_eq_true, decide_not, decide_true, decide_false, Bool.not_true, Bool.not_false, Bool.and_true, Bool.true_and, Bool.and_false, Bool.false_and, Bool.or_true, Bool.true_or, Bool.or_false, Bool.false_or, and_true, true_and, and_self, Nat.zero_add, Nat.add_zero, Int.toNat_zero, Nat.zero_mul, wp_pure, beq_self_eq_true, bne_self_eq_false, reduceCtorEq, memr, buildSlice, build, reps, fill, sizesOf, List.take_succ_cons, List.take_zero, List.drop_succ_cons, List.drop_zero, Nat.reduceMul, Nat.ble, Nat.reduceLeDiff, Nat.mul_one, Nat.one_mul, writeCells, setAll, Cont.size, Cont.set, Cont.at, Cont.sub, upd_same, upd_ne, List.all_cons, List.all_nil, Option.some.injEq, exists_eq_left', Int.reduceToNat, ne_eq, and_true, true_and, List.length_cons, List.length_nil, Nat.mul_zero, Nat.zero_mul, convert, convStr, isU8, k2, hlen d2, w64, pw0, fdiv_one, lo_byte]
        refine push_byte ho2 hf2 (by simp only [List.length_append, List.length_singleton]; omega) (UInt8.ofNat os[i].2.length) rfl fun S H ho2 hid2' hf2 hold3 => ?_
        have d2 : Bytes H da os[i].2 := d2.keep fun j hj => hold3 j (by have := dN j hj; omega) (fun e => by rw [hid2] at e; injection e with e; have := dN j hj; omega)
        have k2 : H n = some (Blk.row (Cont.l [AVal.int IntKind.u8 (os[i].1.toNat : Int), da]) 32) := (hold3 n (by omega) (fun e => by rw [hid2] at e; injection e with e; omega)).trans k2
        have oo2 : Old h0 H N := oo2.trans (fun j hj => hold3 j (by omega) (fun e => by rw [hid2] at e; injection e with e; omega)) (Nat.le_refl _)
        have hid2 := hid2'
        simp (disch := omega) only [core1, cont_block_any, opg_un, u8, tyr, fgr, hkr, execOp, opd, opds, opt, ofValue, ofArr, ofList, ops2, putT, put, nth, forgetL, doCall, callV_func, builtin, one1, two2, some1, foldM2, min2, max2, blr, bCopy, intB, und, sizeOf, zeroOf, lenOf, bor, binInt, binOther, shiftB, shiftOp, intOp, wrapI, strOp, strK, intK, slK, aggK, unOp, doPick, branch, idx, readCells, cellsOf, oneOf, aggB, cel, alloc, doAlloc, newRow, nilCheck, extract, getO, ended, resultOf, oneOrTup, rowK, loopK, moved, fieldAddr, field, part, index, sameSz, equalTop, equal, nilFn, nilPtr, nilSl1, nilSl2, nilSl3, boolOf, List.getElem?_cons_succ, List.getElem?_cons_zero, List.append_eq, List.cons_append, List.nil_append, List.append_nil, List.length_cons, List.length_nil, Nat.reduceAdd, Nat.reduceSub, Nat.beq, Option.bind_some, nc0, nc1, Int.cast_ofNat_Int, int_beq, int_bne, str_beq, ↓reduceIte, Int.reduceEq, Int.reduceLT, Int.reduceLE, Int.reduceNe, Int.reduceAdd, Int.reduceSub, Int.reduceMul, Int.reduceNeg, Int.reduceGT, Int.reduceGE, ge_iff_le, gt_iff_lt, not_true_eq_false, not_false_eq_true, decide_not, decide_true, decide_false, Bool.not_true, Bool.not_false, Bool.and_true, Bool.true_and, Bool.and_false, Bool.false_and, Bool.or_true, Bool.true_or, Bool.or_false, Bool.false_or, and_true, true_and, and_self, Nat.zero_add, Nat.add_zero, Int.toNat_zero, Nat.zero_mul, wp_pure, beq_self_eq_true, bne_self_eq_false, reduceCtorEq, memr, buildSlice, build, reps, fill, sizesOf, List.take_succ_cons, List.take_zero, List.drop_succ_cons, List.drop_zero, Nat.reduceMul, Nat.ble, Nat.reduceLeDiff, Nat.mul_one, Nat.one_mul, writeCells, setAll, Cont.size, Cont.set, Cont.at, Cont.sub, upd_same, upd_ne, List.all_cons, List.all_nil, Option.some.injEq, exists_eq_left', Int.reduceToNat, ne_eq, and_true, true_and, List.length_cons, List.length_nil, Nat.mul_zero, Nat.zero_mul, convert, convStr, isU8, w64]
        rw [run_loop]
        simp (disch := omega) only [core1, cont_block_any, opg_un, u8, tyr, fgr, hkr, execOp, opd, opds, opt, ofValue, ofArr, ofList, ops2, putT, put, nth, forgetL, doCall, callV_func, builtin, one1, two2, some1, foldM2, min2, max2, blr, bCopy, intB, und, sizeOf, zeroOf, lenOf, bor, binInt, binOther, shiftB, shiftOp, intOp, wrapI, strOp, strK, intK, slK, aggK, unOp, doPick, branch, idx, readCells, cellsOf, oneOf, aggB, cel, alloc, doAlloc, newRow, nilCheck, extract, getO, ended, resultOf, oneOrTup, rowK, loopK, moved, fieldAddr, field, part, index, sameSz, equalTop, equal, nilFn, nilPtr, nilSl1, nilSl2, nilSl3, boolOf, List.getElem?_cons_succ, List.getElem?_cons_zero, List.append_eq, List.cons_append, List.nil_append, List.append_nil, List.length_cons, List.length_nil, Nat.reduceAdd, Nat.reduceSub, Nat.beq, Option.bind_some, nc0, nc1, Int.cast_ofNat_Int, int_beq, int_bne, str_beq, ↓reduceIte, Int.reduceEq, Int.reduceLT, Int.reduceLE, Int.reduceNe, Int.reduceAdd, Int.reduceSub, Int.reduceMul, Int.reduceNeg, Int.reduceGT, Int.reduceGE, ge_iff_le, gt_iff_lt, not_true_eq_false, not_false_eq_true, decide_not, decide_true, decide_false, Bool.not_true, Bool.not_false, Bool.and_true, Bool.true_and, Bool.and_false, Bool.false_and, Bool.or_true, Bool.true_or, Bool.or_false, Bool.false_or, and_true, true_and, and_self, Nat.zero_add, Nat.add_zero, Int.toNat_zero, Nat.zero_mul, wp_pure, beq_self_eq_true, bne_self_eq_false, reduceCtorEq, memr, buildSlice, build, reps, fill, sizesOf, List.take_succ_cons, List.take_zero, List.drop_succ_cons, List.drop_zero, Nat.reduceMul, Nat.ble, Nat.reduceLeDiff, Nat.mul_one, Nat.one_mul, writeCells, setAll, Cont.size, Cont.set, Cont.at, Cont.sub, upd_same, upd_ne, List.all_cons, List.all_nil, Option.some.injEq, exists_eq_left', Int.reduceToNat, ne_eq, and_true, true_and, List.length_cons, List.length_nil, Nat.mul_zero, Nat.zero_mul, convert, convStr, isU8, k2]
        have hO : ∃ M, n1 + 1 + 1 ≤ M ∧ M = n1 + 1 + 1 + 1 + 1 := ⟨_, by omega, rfl⟩
        obtain ⟨M, hM1, hM⟩ := hO
        rw [← hM] at ho2 hf2 ⊢
      case' inr.inr =>
        rw [c2, run_loop]
        simp (disch := omega) only [core1, cont_block_any, opg_un, u8, tyr, fgr, hkr, execOp, opd, opds, opt, ofValue, ofArr, ofList, ops2, putT, put, nth, forgetL, doCall, callV_func, builtin, one1, two2, some1, foldM2, min2, max2, blr, bCopy, intB, und, sizeOf, zeroOf, lenOf, bor, binInt, binOther, shiftB, shiftOp, intOp, wrapI, strOp, strK, intK, slK, aggK, unOp, doPick, branch, idx, readCells, cellsOf, oneOf, aggB, cel, alloc, doAlloc, newRow, nilCheck, extract, getO, ended, resultOf, oneOrTup, rowK, loopK, moved, fieldAddr, field, part, index, sameSz, equalTop, equal, nilFn, nilPtr, nilSl1, nilSl2, nilSl3, boolOf, List.getElem?_cons_succ, List.getElem?_cons_zero, List.append_eq, List.cons_append, List.nil_append, List.append_nil, List.length_cons, List.length_nil, Nat.reduceAdd, Nat.reduceSub, Nat.beq, Option.bind_some, nc0, nc1, Int.cast_ofNat_Int, int_beq, int_bne, str_beq, ↓reduceIte, Int.reduceEq, Int.reduceLT, Int.reduceLE, Int.reduceNe, Int.reduceAdd, Int.reduceSub, Int.reduceMul, Int.reduceNeg, Int.reduceGT, Int.reduceGE, ge_iff_le, gt_iff_lt, not_true_eq_false, not_false_eq_true, decide_not, decide_true, decide_false, Bool.not_true, Bool.not_false, Bool.and_true, Bool.true_and, Bool.and_false, Bool.false_and, Bool.or_true, Bool.true_or, Bool.or_false, Bool.false_or, and_true, true_and, and_self, Nat.zero_add, Nat.add_zero, Int.toNat_zero, Nat.zero_mul, wp_pure, beq_self_eq_true, bne_self_eq_false, reduceCtorEq, memr, buildSlice, build, reps, fill, sizesOf, List.take_succ_cons, List.take_zero, List.drop_succ_cons, List.drop_zero, Nat.reduceMul, Nat.ble, Nat.reduceLeDiff, Nat.mul_one, Nat.one_mul, writeCells, setAll, Cont.size, Cont.set, Cont.at, Cont.sub, upd_same, upd_ne, List.all_cons, List.all_nil, Option.some.injEq, exists_eq_left', Int.reduceToNat, ne_eq, and_true, true_and, List.length_cons, List.length_nil, Nat.mul_zero, Nat.zero_mul, convert, convStr, isU8, k2]
        have hO : ∃ M, n1 + 1 + 1 ≤ M ∧ M = n1 + 1 + 1 := ⟨_, by omega, rfl⟩
        obtain ⟨M, hM1, hM⟩ := hO
        rw [← hM] at ho2 hf2 ⊢
      all_goals
        refine app_bytes (i := ⟨.int .u8, 1, 1, .int .u8 0⟩) (e := 5) ho2 d2 rfl rfl ti5 rfl (by simp only [Nat.mul_one, List.length_append, List.length_singleton]; omega) (by simp only [List.length_append, List.length_singleton]; omega) ?_
        intro s1 h3 n3 hn3 ho3 hid3 hold3
        have hidS : ∀ j, ownId S = some j → n1 ≤ j := fun j hj => by rw [hid2] at hj; injection hj with hj; omega
        have hid' : ∀ j, ownId s1 = some j → N ≤ j := fun j hj => by
          rcases hid3 with ⟨e, _, _⟩ | ⟨e, _⟩
          · rw [e] at hj; have := hidS j hj; omega
          · rw [e] at hj; injection hj with hj; omega
        have hf3 : Free h3 n3 := by
          rcases hid3 with ⟨_, e1, e2⟩ | ⟨_, e2⟩
          · rw [e1, e2]; exact hf2
          · rw [e2]; exact free_hold hf2 (fun j hj => ho2.id_lt hj) hold3
        simp only [core1, cont_block_any, opg_un, u8, tyr, fgr, hkr, execOp, opd, opds, opt, ofValue, ofArr, ofList, ops2, putT, put, nth, forgetL, doCall, callV_func, builtin, one1, two2, some1, foldM2, min2, max2, blr, bCopy, intB, und, sizeOf, zeroOf, lenOf, bor, binInt, binOther, shiftB, shiftOp, intOp, wrapI, strOp, strK, intK, slK, aggK, unOp, doPick, branch, idx, readCells, cellsOf, oneOf, aggB, cel, alloc, doAlloc, newRow, nilCheck, extract, getO, ended, resultOf, oneOrTup, rowK, loopK, moved, fieldAddr, field, part, index, sameSz, equalTop, equal, nilFn, nilPtr, nilSl1, nilSl2, nilSl3, boolOf, List.getElem?_cons_succ, List.getElem?_cons_zero, List.append_eq, List.cons_append, List.nil_append, List.append_nil, List.length_cons, List.length_nil, Nat.reduceAdd, Nat.reduceSub, Nat.beq, Option.bind_some, nc0, nc1, Int.cast_ofNat_Int, int_beq, int_bne, str_beq, ↓reduceIte, Int.reduceEq, Int.reduceLT, Int.reduceLE, Int.reduceNe, Int.reduceAdd, Int.reduceSub, Int.reduceMul, Int.reduceNeg, Int.reduceGT, Int.reduceGE, ge_iff_le, gt_iff_lt, not_true_eq_false, not_false_eq_true, decide_not, decide_true, decide_false, Bool.not_true, Bool.not_false, Bool.and_true, Bool.true_and, Bool.and_false, Bool.false_and, Bool.or_true, Bool.true_or, Bool.or_false, Bool.false_or, and_true, true_and, and_self, Nat.zero_add, Nat.add_zero, Int.toNat_zero, Nat.zero_mul, wp_pure, beq_self_eq_true, bne_self_eq_false, reduceCtorEq, hw]
        refine ih (i + 1) (acc ++ opB os[i].1 os[i].2) s1 h3 n3 _ _ _ _ _ _ _ _ _ _ (by omega) ?_ (by rw [List.length_append]; omega) (by omega) hf3 ?_ hid' ?_
        · rw [hj, Option.map_map]
          congr 1
          funext r
          simp
        · rw [opB, c3]
          exact own_cast ho3 (by simp only [List.length_append, List.length_cons, List.length_nil]; omega) (by simp)
        · exact oo2.trans (old_hold (N := N) (by omega) (fun j hj => by have := hidS j hj; omega) hold3) (Nat.le_refl _)
theorem f10 (a : AVal) (os : List OpD) (h : Hp) (n : Nat) (hf : Free h n) (ha : OpsK n h a os) (hb1 : os.length ≤ 100000000) :
    Wp (callI env (evalW env) 10 [a]) h n (JoinS h n os .i64) := by
  refine wp_callI ff10 fi10 ?_
  simp only [fu10, Try.f10, Option.getD_some, List.replicate, core1, cont_block_any, opg_un, u8, tyr, fgr, hkr, execOp, opd, opds, opt, ofValue, ofArr, ofList, ops2, putT, put, nth, forgetL, doCall, callV_func, builtin, one1, two2, some1, foldM2, min2, max2, blr, bCopy, intB, und, sizeOf, zeroOf, lenOf, bor, binInt, binOther, shiftB, shiftOp, intOp, wrapI, strOp, strK, intK, slK, aggK, unOp, doPick, branch, idx, readCells, cellsOf, oneOf, aggB, cel, alloc, doAlloc, newRow, nilCheck, extract, getO, ended, resultOf, oneOrTup, rowK, loopK, moved, fieldAddr, field, part, index, sameSz, equalTop, equal, nilFn, nilPtr, nilSl1, nilSl2, nilSl3, boolOf, List.getElem?_cons_succ, List.getElem?_cons_zero, List.append_eq, List.cons_append, List.nil_append, List.append_nil, List.length_cons, List.length_nil, Nat.reduceAdd, Nat.reduceSub, Nat.beq, Option.bind_some, nc0, nc1, Int.cast_ofNat_Int, int_beq, int_bne, str_beq, ↓reduceIte, Int.reduceEq, Int.reduceLT, Int.reduceLE, Int.reduceNe, Int.reduceAdd, Int.reduceSub, Int.reduceMul, Int.reduceNeg, Int.reduceGT, Int.reduceGE, ge_iff_le, gt_iff_lt, not_true_eq_false, not_false_eq_true, decide_not, decide_true, decide_false, Bool.not_true, Bool.not_false, Bool.and_true, Bool.true_and, Bool.and_false, Bool.false_and, Bool.or_true, Bool.true_or, Bool.or_false, Bool.false_or, and_true, true_and, and_self, Nat.zero_add, Nat.add_zero, Int.toNat_zero, Nat.zero_mul, wp_pure, beq_self_eq_true, bne_self_eq_false, reduceCtorEq, ha.r.len]
  refine loop10 _ _ a os hb1 n h ha ?_ ?_ os.length 0 [] .nils h n _ _ _ _ _ _ _ _ _ _ (by omega) (by simp) (by simp) (Nat.le_refl _) hf .nil (fun j hj => by cases hj) (Old.refl _ _)
  · intro l hl out h' n' x0 x2 x3 x6 x7 x8 x9 x10 x11 x16 x24 x25 x26 hnew
    simp only [core1, cont_block_any, opg_un, u8, tyr, fgr, hkr, execOp, opd, opds, opt, ofValue, ofArr, ofList, ops2, putT, put, nth, forgetL, doCall, callV_func, builtin, one1, two2, some1, foldM2, min2, max2, blr, bCopy, intB, und, sizeOf, zeroOf, lenOf, bor, binInt, binOther, shiftB, shiftOp, intOp, wrapI, strOp, strK, intK, slK, aggK, unOp, doPick, branch, idx, readCells, cellsOf, oneOf, aggB, cel, alloc, doAlloc, newRow, nilCheck, extract, getO, ended, resultOf, oneOrTup, rowK, loopK, moved, fieldAddr, field, part, index, sameSz, equalTop, equal, nilFn, nilPtr, nilSl1, nilSl2, nilSl3, boolOf, List.getElem?_cons_succ, List.getElem?_cons_zero, List.append_eq, List.cons_append, List.nil_append, List.append_nil, List.length_cons, List.length_nil, Nat.reduceAdd, Nat.reduceSub, Nat.beq, Option.bind_some, nc0, nc1, Int.cast_ofNat_Int, int_beq, int_bne, str_beq, ↓reduceIte, Int.reduceEq, Int.reduceLT, Int.reduceLE, Int.reduceNe, Int.reduceAdd, Int.reduceSub, Int.reduceMul, Int.reduceNeg, Int.reduceGT, Int.reduceGE, ge_iff_le, gt_iff_lt, not_true_eq_false, not_false_eq_true, decide_not, decide_true, decide_false, Bool.not_true, Bool.not_false, Bool.and_true, Bool.true_and, Bool.and_false, Bool.false_and, Bool.or_true, Bool.true_or, Bool.or_false, Bool.false_or, and_true, true_and, and_self, Nat.zero_add, Nat.add_zero, Int.toNat_zero, Nat.zero_mul, wp_pure, beq_self_eq_true, bne_self_eq_false, reduceCtorEq]
    refine ⟨out, by rw [hl], by rw [hl]; exact hnew⟩
  · intro hl h' n' x0 x4 x6 x7 x8 x9 x10 x11 x16 x24 x25 x26 ho
    simp only [core1, cont_block_any, opg_un, u8, tyr, fgr, hkr, execOp, opd, opds, opt, ofValue, ofArr, ofList, ops2, putT, put, nth, forgetL, doCall, callV_func, builtin, one1, two2, some1, foldM2, min2, max2, blr, bCopy, intB, und, sizeOf, zeroOf, lenOf, bor, binInt, binOther, shiftB, shiftOp, intOp, wrapI, strOp, strK, intK, slK, aggK, unOp, doPick, branch, idx, readCells, cellsOf, oneOf, aggB, cel, alloc, doAlloc, newRow, nilCheck, extract, getO, ended, resultOf, oneOrTup, rowK, loopK, moved, fieldAddr, field, part, index, sameSz, equalTop, equal, nilFn, nilPtr, nilSl1, nilSl2, nilSl3, boolOf, List.getElem?_cons_succ, List.getElem?_cons_zero, List.append_eq, List.cons_append, List.nil_append, List.append_nil, List.length_cons, List.length_nil, Nat.reduceAdd, Nat.reduceSub, Nat.beq, Option.bind_some, nc0, nc1, Int.cast_ofNat_Int, int_beq, int_bne, str_beq, ↓reduceIte, Int.reduceEq, Int.reduceLT, Int.reduceLE, Int.reduceNe, Int.reduceAdd, Int.reduceSub, Int.reduceMul, Int.reduceNeg, Int.reduceGT, Int.reduceGE, ge_iff_le, gt_iff_lt, not_true_eq_false, not_false_eq_true, decide_not, decide_true, decide_false, Bool.not_true, Bool.not_false, Bool.and_true, Bool.true_and, Bool.and_false, Bool.false_and, Bool.or_true, Bool.true_or, Bool.or_false, Bool.false_or, and_true, true_and, and_self, Nat.zero_add, Nat.add_zero, Int.toNat_zero, Nat.zero_mul, wp_pure, beq_self_eq_true, bne_self_eq_false, reduceCtorEq]
    refine ⟨.nils, by rw [hl], by rw [hl]; exact new5_nil ho⟩
def errJ (os : List OpD) : Int := match joinV os with | some _ => 0 | none => 100
theorem JoinS.un {h h' : Hp} {n n' : Nat} {os : List OpD} {k : IntKind} {v : AVal} (hs : JoinS h n os k v h' n') : ∃ x, v = .tup [x, .int .i64 (errJ os)] ∧ New0 h n ((joinV os).getD []) x h' n' := by
  obtain ⟨x, a, b⟩ := hs
  exact ⟨x, a, b.to0⟩
/- Splitting and joining, plainly. -/
theorem byte_lo (a b : UInt8) : UInt8.ofNat (a.toNat + 256 * b.toNat) = a := by
  apply UInt8.toNat_inj.1
  rw [UInt8.toNat_ofNat']
  have := a.toNat_lt
  omega
theorem byte_hi (a b : UInt8) : UInt8.ofNat ((a.toNat + 256 * b.toNat) / 256) = b := by
  apply UInt8.toNat_inj.1
  rw [UInt8.toNat_ofNat']
  have := a.toNat_lt
  have := b.toNat_lt
  omega
/-- What a script says of itself, said again. -/
theorem op_back {c : UInt8} {r : List UInt8} (hok : okV c r = true) : mayV c ((r.drop (szV c)).take (daV c r)).length = true ∧ lenB c ((r.drop (szV c)).take (daV c r)).length ++ ((r.drop (szV c)).take (daV c r) ++ r.drop (szV c + daV c r)) = r := by
  have hk : szV c ≤ r.length ∧ szV c + daV c r ≤ r.length := by
    unfold okV at hok; simpa using hok
  have hlen : ((r.drop (szV c)).take (daV c r)).length = daV c r := by rw [List.length_take, List.length_drop]; omega
  have htail : (r.drop (szV c)).take (daV c r) ++ r.drop (szV c + daV c r) = r.drop (szV c) := by rw [← List.drop_drop, List.take_append_drop]
  rw [hlen, htail]
  by_cases c7 : c.toNat = 77
  · have hs : szV c = 2 := by simp [szV, c7]
    rw [hs] at hk ⊢
    match r, hk with
    | a :: b :: r', hk =>
      have hd : daV c (a :: b :: r') = a.toNat + 256 * b.toNat := by simp [daV, c7]
      have := a.toNat_lt
      have := b.toNat_lt
      rw [hd]
      refine ⟨?_, ?_⟩
      · have : a.toNat + 256 * b.toNat ≤ 65535 := by omega
        simp [mayV, c7, this]
      · simp only [lenB, c7, if_true, byte_lo, byte_hi, List.drop_succ_cons, List.drop_zero]; rfl
  · by_cases c6 : c.toNat = 76
    · have hs : szV c = 1 := by simp [szV, c6]
      rw [hs] at hk ⊢
      match r, hk with
      | a :: r', hk =>
        have hd : daV c (a :: r') = a.toNat := by simp [daV, c6]
        have := a.toNat_lt
        rw [hd]
        refine ⟨?_, ?_⟩
        · have : a.toNat ≤ 255 := by omega
          simp [mayV, c6, this]
        · have e : UInt8.ofNat a.toNat = a := by
            apply UInt8.toNat_inj.1
            rw [UInt8.toNat_ofNat']; omega
          simp [lenB, c6, e]
    · have hs : szV c = 0 := by simp [szV, c6, c7]
      rw [hs]
      by_cases c5 : c.toNat ≤ 75
      · have hd : daV c r = c.toNat := by simp [daV, c6, c7, c5]
        rw [hd]
        exact ⟨by simp [mayV, c6, c7, c5], by simp [lenB, c6, c7]⟩
      · have hd : daV c r = 0 := by simp [daV, c6, c7, c5]
        rw [hd]
        exact ⟨by simp [mayV, c6, c7, c5], by simp [lenB, c6, c7]⟩
theorem join_split : ∀ (k : Nat) (l : List UInt8), l.length ≤ k → (splitV l).2 = true → joinV (splitV l).1 = some l := by
  intro k
  induction k with
  | zero =>
    intro l hl _
    have : l = [] := by cases l with | nil => rfl | cons a l => simp at hl
    subst this
    rw [split_nil]; rfl
  | succ k ih =>
    intro l hl hs
    match l with
    | [] => rw [split_nil]; rfl
    | c :: r =>
      cases hok : okV c r with
      | false => rw [split_no hok] at hs; cases hs
      | true =>
        rw [split_yes hok] at hs ⊢
        simp only [List.length_cons] at hl
        obtain ⟨a, b⟩ := op_back hok
        have := ih (r.drop (szV c + daV c r)) (by rw [List.length_drop]; omega) hs
        simp only [joinV, a, if_true, eq_self, ↓reduceIte, this, Option.map_some, opB, Option.some.injEq, List.cons_append, List.append_assoc, b]
/-- What was joined, is split. -/
theorem op_split (c : UInt8) (d r : List UInt8) (hm : mayV c d.length = true) : splitV (opB c d ++ r) = ((c, d) :: (splitV r).1, (splitV r).2) := by
  have hml := may_len hm
  have key : ∀ s : Nat, (lenB c d.length).length = s → szV c = s → daV c (lenB c d.length ++ (d ++ r)) = d.length → splitV (opB c d ++ r) = ((c, d) :: (splitV r).1, (splitV r).2) := by
    intro s h1 h2 h3
    have e : opB c d ++ r = c :: (lenB c d.length ++ (d ++ r)) := by simp [opB]
    have hok : okV c (lenB c d.length ++ (d ++ r)) = true := by
      unfold okV
      rw [h3, decide_eq_true (by simp only [List.length_append]; omega), decide_eq_true (by simp only [List.length_append]; omega)]; rfl
    rw [e, split_yes hok, h3, h2]
    have d1 : (lenB c d.length ++ (d ++ r)).drop s = d ++ r := by rw [← h1, List.drop_left]
    have d2 : (lenB c d.length ++ (d ++ r)).drop (s + d.length) = r := by rw [← List.drop_drop, d1, List.drop_left]
    rw [d1, d2, List.take_left]
  by_cases c7 : c.toNat = 77
  · refine key 2 (by simp [lenB, c7]) (by simp [szV, c7]) ?_
    simp only [lenB, c7, if_true, eq_self, ↓reduceIte, daV, List.cons_append, List.nil_append, List.getD_cons_zero, List.getD_cons_succ, UInt8.toNat_ofNat']
    omega
  · by_cases c6 : c.toNat = 76
    · have h255 : d.length ≤ 255 := by simpa [mayV, c6] using hm
      refine key 1 (by simp [lenB, c6]) (by simp [szV, c6]) ?_
      simp only [lenB, c6, if_true, daV, List.cons_append, List.nil_append, List.getD_cons_zero, UInt8.toNat_ofNat']
      simp; omega
    · refine key 0 (by simp [lenB, c6, c7]) (by simp [szV, c6, c7]) ?_
      by_cases c5 : c.toNat ≤ 75
      · have : d.length = c.toNat := by simpa [mayV, c6, c7, c5] using hm
        simp [daV, c6, c7, c5, this]
      · have : d.length = 0 := by simpa [mayV, c6, c7, c5] using hm
        simp [daV, c6, c7, c5, this]
theorem split_join (l : List UInt8) : ∀ (os : List OpD) (j : List UInt8), joinV os = some j → splitV (j ++ l) = (os ++ (splitV l).1, (splitV l).2) := by
  intro os
  induction os with
  | nil => intro j hj; injection hj with hj; subst hj; simp
  | cons o os ih =>
    intro j hj
    rw [joinV] at hj
    cases hm : mayV o.1 o.2.length with
    | false => rw [hm] at hj; cases hj
    | true =>
      rw [hm, if_pos rfl, Option.map_eq_some_iff] at hj
      obtain ⟨r, hr, rfl⟩ := hj
      rw [List.append_assoc, op_split _ _ _ hm, ih r hr]
      rfl
theorem join_len : ∀ (os : List OpD) (j : List UInt8), joinV os = some j → j.length ≤ os.length * 65538 := by
  intro os
  induction os with
  | nil => intro j hj; injection hj with hj; subst hj; simp
  | cons o os ih =>
    intro j hj
    rw [joinV] at hj
    cases hm : mayV o.1 o.2.length with
    | false => rw [hm] at hj; cases hj
    | true =>
      rw [hm, if_pos rfl, Option.map_eq_some_iff] at hj
      obtain ⟨r, hr, rfl⟩ := hj
      have := ih r hr
      have := may_len hm
      have := opB_len (c := o.1) (l := o.2)
      simp only [List.length_append, List.length_cons]; omega
/- Parts of operations, and the chapter's first example. -/
theorem own_form {h : Hp} {n e sz cnt : Nat} {v : AVal} {xs : List AVal} (ho : Own h n e sz v cnt xs) : (v = .nils ∧ cnt = 0) ∨ ∃ id e' cap, v = .sl id 0 cnt cap sz ∧ (cap = none ∨ cap = some cnt) ∧ id < n ∧ h id = some (.row (.l xs) e') := by
  cases ho with
  | nil => exact .inl ⟨rfl, rfl⟩
  | sl id cnt xs hid hh hl => exact .inr ⟨id, e, none, rfl, .inl rfl, hid, hh⟩
  | full id cnt xs e' hid hh hl => exact .inr ⟨id, e', some cnt, rfl, .inr rfl, hid, hh⟩
theorem cells_k {h : Hp} {n id e k m : Nat} {X : Nat → Prop} {cs : List AVal} {os : List OpD} {cap : Option Nat} (hc : OpC h n X cs os) (hX : X id) (hid : id < n) (hh : h id = some (.row (.l cs) e)) (hkm : k + m ≤ os.length) :
    OpsK n h (.sl id (k * 2) m cap 2) ((os.drop k).take m) := fun h' n' hn ho => by
  have hl : ((os.drop k).take m).length = m := by rw [List.length_take, List.length_drop]; omega
  refine ⟨fun ts => by rw [hl]; rfl, fun j hj => ?_⟩
  have hkj : k + j < os.length := by omega
  obtain ⟨d, a, b, c, d1, f, g⟩ := hc.at hkj
  have hh' := (ho id hid).trans hh
  have e1 : ((os.drop k).take m)[j] = os[k + j] := by simp
  have a' : cs[k * 2 + j * 2]? = some (u8 os[k + j].1) := by rw [show k * 2 + j * 2 = (k + j) * 2 by omega]; exact a
  have b' : cs[k * 2 + j * 2 + 1]? = some d := by rw [show k * 2 + j * 2 + 1 = (k + j) * 2 + 1 by omega]; exact b
  rw [e1]
  refine ⟨.ptr id (k * 2 + j * 2), _, _, d, [id], fun h2 n2 => ?_, rfl, rfl, cell_rd hh' a' ti5 rfl, cell_rd hh' b' ti23 rfl, pair_rd hh' a' b', c.keep fun i hi => ho i (below_own d1 hi), d1, roomyM f⟩
  have hu : und env 22 = M.pure (.slice 32) := rfl
  have hz : sizeOf env 32 = M.pure 2 := rfl
  simp only [indexAddr, hu, hz, bind_pure, intK, slK, idx, bind_assoc, Nat.beq_refl, Int.toNat_natCast]
  exact Rd.bind (i2 := []) (Rd.ob (by simp; omega)) (Rd.pure _)
theorem nils_k {n : Nat} {h : Hp} : OpsK n h .nils [] := (ArgOps.nils).k n h
theorem ops_pre {h : Hp} {n : Nat} {X : Nat → Prop} {v : AVal} {os : List OpD} (hv : OpsV h n X v os) {k : Nat} (hk : k ≤ os.length) : ∃ w, slice env 22 v none (some (.int .i64 (k : Nat))) none = M.pure w ∧ OpsK n h w (os.take k) := by
  obtain ⟨cs, ho, hc, hx⟩ := hv
  have hu : und env 22 = M.pure (.slice 32) := rfl
  have hz : sizeOf env 32 = M.pure 2 := rfl
  have h2 : (0 : Int) ≤ ((k : Nat) : Int) ∧ ((k : Nat) : Int) ≤ ((os.length : Nat) : Int) := by omega
  have h1 : ((k : Nat) : Int) ≤ ((os.length : Nat) : Int) := by omega
  have h3 : (0 : Int) ≤ 0 ∧ (0 : Int) ≤ ((k : Nat) : Int) := ⟨Int.le_refl 0, by omega⟩
  rcases own_form ho with ⟨rfl, h0⟩ | ⟨id, e', cap, rfl, hcap, hid, hh⟩
  · have : os = [] := List.eq_nil_of_length_eq_zero h0
    subst this
    have : k = 0 := by simpa using hk
    subst this
    exact ⟨.nils, rfl, nils_k⟩
  · refine ⟨.sl id (0 * 2) k (match cap with | some c => some (c - 0) | none => none) 2, ?_, by have := cells_k (k := 0) (m := k) (cap := (match cap with | some c => some (c - 0) | none => none)) hc (.inl rfl) hid hh (by omega); simpa using this⟩
    rcases hcap with rfl | rfl
    · simp only [slice, hu, hz, bind_pure, sameSz, Nat.beq_refl, roomOf, bound, intK, h1, h2, h3, decide_true, bind_assoc, Int.toNat_natCast, Nat.sub_zero, Nat.zero_add, nc0, and_self, Nat.zero_mul, Int.toNat_zero]
      rfl
    · simp only [slice, hu, hz, bind_pure, sameSz, Nat.beq_refl, roomOf, bound, intK, h1, h2, h3, decide_true, bind_assoc, Int.toNat_natCast, Nat.sub_zero, Nat.zero_add, nc0, and_self, Nat.zero_mul, Int.toNat_zero]
      rfl
theorem ops_suf {h : Hp} {n : Nat} {X : Nat → Prop} {v : AVal} {os : List OpD} (hv : OpsV h n X v os) {k : Nat} (hk : k ≤ os.length) : ∃ w, slice env 22 v (some (.int .i64 (k : Nat))) none none = M.pure w ∧ OpsK n h w (os.drop k) := by
  obtain ⟨cs, ho, hc, hx⟩ := hv
  have hu : und env 22 = M.pure (.slice 32) := rfl
  have hz : sizeOf env 32 = M.pure 2 := rfl
  have h2 : (0 : Int) ≤ ((k : Nat) : Int) ∧ ((k : Nat) : Int) ≤ ((os.length : Nat) : Int) := by omega
  rcases own_form ho with ⟨rfl, h0⟩ | ⟨id, e', cap, rfl, hcap, hid, hh⟩
  · have : os = [] := List.eq_nil_of_length_eq_zero h0
    subst this
    have : k = 0 := by simpa using hk
    subst this
    exact ⟨.nils, rfl, nils_k⟩
  · refine ⟨.sl id (k * 2) (os.length - k) (match cap with | some c => some (c - k) | none => none) 2, ?_, by have := cells_k (k := k) (m := os.length - k) (cap := (match cap with | some c => some (c - k) | none => none)) hc (.inl rfl) hid hh (by omega); rwa [List.take_of_length_le (by simp)] at this⟩
    rcases hcap with rfl | rfl
    · simp only [slice, hu, hz, bind_pure, sameSz, Nat.beq_refl, roomOf, bound, intK, h2, decide_true, bind_assoc, Int.toNat_natCast, Nat.zero_add, and_self]
      rfl
    · simp only [slice, hu, hz, bind_pure, sameSz, Nat.beq_refl, roomOf, bound, intK, h2, decide_true, bind_assoc, Int.toNat_natCast, Nat.zero_add, and_self]
      rfl
def aliveOs : List OpD := [(2, [97, 98]), (97, []), (0, [])]
theorem alive_split : splitV [2, 97, 98, 97, 0] = (aliveOs, true) := by
  rw [split_yes (by decide)]
  show ((2, [97, 98]) :: (splitV [97, 0]).1, (splitV [97, 0]).2) = _
  rw [split_yes (c := 97) (r := [0]) (by decide)]
  show ((2, [97, 98]) :: (97, []) :: (splitV [0]).1, (splitV [0]).2) = _
  rw [split_yes (c := 0) (r := []) (by decide)]
  show ((2, [97, 98]) :: (97, []) :: (0, []) :: (splitV []).1, (splitV []).2) = _
  rw [split_nil]; rfl
theorem f26 (l : List UInt8) (v : AVal) (os : List OpD) (h : Hp) (n : Nat) (hf : Free h n) (hv : OpsK n h v os) (hl : l.length ≤ 100000000) (hos : os.length ≤ maxLen) : Wp (callI env (evalW env) 26 [.str l, v]) h n fun v' h' n' => v' = .bool (decide (errV l = 0) && decide (osV l = os)) ∧ Old h h' n := by
  refine wp_callI ff26 fi26 ?_
  simp only [fu26, Try.f26, Option.getD_some, List.replicate, core1, cont_block_any, opg_un, u8, tyr, fgr, hkr, execOp, opd, opds, opt, ofValue, ofArr, ofList, ops2, putT, put, nth, forgetL, doCall, callV_func, builtin, one1, two2, some1, foldM2, min2, max2, blr, bCopy, intB, und, sizeOf, zeroOf, lenOf, bor, binInt, binOther, shiftB, shiftOp, intOp, wrapI, strOp, strK, intK, slK, aggK, unOp, doPick, branch, idx, readCells, cellsOf, oneOf, aggB, cel, alloc, doAlloc, newRow, nilCheck, extract, getO, ended, resultOf, oneOrTup, rowK, loopK, moved, fieldAddr, field, part, index, sameSz, equalTop, equal, nilFn, nilPtr, nilSl1, nilSl2, nilSl3, boolOf, List.getElem?_cons_succ, List.getElem?_cons_zero, List.append_eq, List.cons_append, List.nil_append, List.append_nil, List.length_cons, List.length_nil, Nat.reduceAdd, Nat.reduceSub, Nat.beq, Option.bind_some, nc0, nc1, Int.cast_ofNat_Int, int_beq, int_bne, str_beq, ↓reduceIte, Int.reduceEq, Int.reduceLT, Int.reduceLE, Int.reduceNe, Int.reduceAdd, Int.reduceSub, Int.reduceMul, Int.reduceNeg, Int.reduceGT, Int.reduceGE, ge_iff_le, gt_iff_lt, not_true_eq_false, not_false_eq_true, decide_not, decide_true, decide_false, Bool.not_true, Bool.not_false, Bool.and_true, Bool.true_and, Bool.and_false, Bool.false_and, Bool.or_true, Bool.true_or, Bool.or_false, Bool.false_or, and_true, true_and, and_self, Nat.zero_add, Nat.add_zero, Int.toNat_zero, Nat.zero_mul, wp_pure, beq_self_eq_true, bne_self_eq_false, reduceCtorEq]
  refine (toBytes t9 t23 ti5 t5 s5).2 ?_
  have o1 : Old h (upd h n (some (.row (.l (l.map u8)) 5))) n := (Old.refl _ _).upd (Nat.le_refl _)
  obtain ⟨sl, sm⟩ := split_short l.length l (Nat.le_refl _)
  have hosl : (osV l).length ≤ maxLen := by
    unfold osV
    cases (splitV l).2 with
    | true => exact Nat.le_trans sl (Nat.le_trans hl (by decide))
    | false => exact Nat.zero_le _
  simp only [core1, cont_block_any, opg_un, u8, tyr, fgr, hkr, execOp, opd, opds, opt, ofValue, ofArr, ofList, ops2, putT, put, nth, forgetL, doCall, callV_func, builtin, one1, two2, some1, foldM2, min2, max2, blr, bCopy, intB, und, sizeOf, zeroOf, lenOf, bor, binInt, binOther, shiftB, shiftOp, intOp, wrapI, strOp, strK, intK, slK, aggK, unOp, doPick, branch, idx, readCells, cellsOf, oneOf, aggB, cel, alloc, doAlloc, newRow, nilCheck, extract, getO, ended, resultOf, oneOrTup, rowK, loopK, moved, fieldAddr, field, part, index, sameSz, equalTop, equal, nilFn, nilPtr, nilSl1, nilSl2, nilSl3, boolOf, List.getElem?_cons_succ, List.getElem?_cons_zero, List.append_eq, List.cons_append, List.nil_append, List.append_nil, List.length_cons, List.length_nil, Nat.reduceAdd, Nat.reduceSub, Nat.beq, Option.bind_some, nc0, nc1, Int.cast_ofNat_Int, int_beq, int_bne, str_beq, ↓reduceIte, Int.reduceEq, Int.reduceLT, Int.reduceLE, Int.reduceNe, Int.reduceAdd, Int.reduceSub, Int.reduceMul, Int.reduceNeg, Int.reduceGT, Int.reduceGE, ge_iff_le, gt_iff_lt, not_true_eq_false, not_false_eq_true, decide_not, decide_true, decide_false, Bool.not_true, Bool.not_false, Bool.and_true, Bool.true_and, Bool.and_false, Bool.false_and, Bool.or_true, Bool.true_or, Bool.or_false, Bool.false_or, and_true, true_and, and_self, Nat.zero_add, Nat.add_zero, Int.toNat_zero, Nat.zero_mul, wp_pure, beq_self_eq_true, bne_self_eq_false, reduceCtorEq]
  refine opv_callf hf.new (f21 _ l _ (n + 1) (Bytes.fresh (upd_same _ _ _)) (show n < n + 1 by omega) trivial hf.new hl) fun v0 h3 n3 hn3 hf3 q3 => ?_
  obtain ⟨x, e3, hx, hold3⟩ := q3.un
  have kx := hx.choose_spec.1.kind
  subst e3
  have o3 : Old h h3 n := o1.trans hold3 (by omega)
  by_cases he : errV l = 0
  · simp only [core1, cont_block_any, opg_un, u8, tyr, fgr, hkr, execOp, opd, opds, opt, ofValue, ofArr, ofList, ops2, putT, put, nth, forgetL, doCall, callV_func, builtin, one1, two2, some1, foldM2, min2, max2, blr, bCopy, intB, und, sizeOf, zeroOf, lenOf, bor, binInt, binOther, shiftB, shiftOp, intOp, wrapI, strOp, strK, intK, slK, aggK, unOp, doPick, branch, idx, readCells, cellsOf, oneOf, aggB, cel, alloc, doAlloc, newRow, nilCheck, extract, getO, ended, resultOf, oneOrTup, rowK, loopK, moved, fieldAddr, field, part, index, sameSz, equalTop, equal, nilFn, nilPtr, nilSl1, nilSl2, nilSl3, boolOf, List.getElem?_cons_succ, List.getElem?_cons_zero, List.append_eq, List.cons_append, List.nil_append, List.append_nil, List.length_cons, List.length_nil, Nat.reduceAdd, Nat.reduceSub, Nat.beq, Option.bind_some, nc0, nc1, Int.cast_ofNat_Int, int_beq, int_bne, str_beq, ↓reduceIte, Int.reduceEq, Int.reduceLT, Int.reduceLE, Int.reduceNe, Int.reduceAdd, Int.reduceSub, Int.reduceMul, Int.reduceNeg, Int.reduceGT, Int.reduceGE, ge_iff_le, gt_iff_lt, not_true_eq_false, not_false_eq_true, decide_not, decide_true, decide_false, Bool.not_true, Bool.not_false, Bool.and_true, Bool.true_and, Bool.and_false, Bool.false_and, Bool.or_true, Bool.true_or, Bool.or_false, Bool.false_or, and_true, true_and, and_self, Nat.zero_add, Nat.add_zero, Int.toNat_zero, Nat.zero_mul, wp_pure, beq_self_eq_true, bne_self_eq_false, reduceCtorEq, he, kx]
    refine opv_callf hf3 (f12 x v (osV l) os h3 n3 hf3 hx.k (hv.mono (by omega) o3) hosl hos) fun v0 h4 n4 hn4 hf4 ⟨e4, old4⟩ => ?_
    subst e4
    simp only [core1, cont_block_any, opg_un, u8, tyr, fgr, hkr, execOp, opd, opds, opt, ofValue, ofArr, ofList, ops2, putT, put, nth, forgetL, doCall, callV_func, builtin, one1, two2, some1, foldM2, min2, max2, blr, bCopy, intB, und, sizeOf, zeroOf, lenOf, bor, binInt, binOther, shiftB, shiftOp, intOp, wrapI, strOp, strK, intK, slK, aggK, unOp, doPick, branch, idx, readCells, cellsOf, oneOf, aggB, cel, alloc, doAlloc, newRow, nilCheck, extract, getO, ended, resultOf, oneOrTup, rowK, loopK, moved, fieldAddr, field, part, index, sameSz, equalTop, equal, nilFn, nilPtr, nilSl1, nilSl2, nilSl3, boolOf, List.getElem?_cons_succ, List.getElem?_cons_zero, List.append_eq, List.cons_append, List.nil_append, List.append_nil, List.length_cons, List.length_nil, Nat.reduceAdd, Nat.reduceSub, Nat.beq, Option.bind_some, nc0, nc1, Int.cast_ofNat_Int, int_beq, int_bne, str_beq, ↓reduceIte, Int.reduceEq, Int.reduceLT, Int.reduceLE, Int.reduceNe, Int.reduceAdd, Int.reduceSub, Int.reduceMul, Int.reduceNeg, Int.reduceGT, Int.reduceGE, ge_iff_le, gt_iff_lt, not_true_eq_false, not_false_eq_true, decide_not, decide_true, decide_false, Bool.not_true, Bool.not_false, Bool.and_true, Bool.true_and, Bool.and_false, Bool.false_and, Bool.or_true, Bool.true_or, Bool.or_false, Bool.false_or, and_true, true_and, and_self, Nat.zero_add, Nat.add_zero, Int.toNat_zero, Nat.zero_mul, wp_pure, beq_self_eq_true, bne_self_eq_false, reduceCtorEq]
    exact o3.trans old4 (by omega)
  · simp only [core1, cont_block_any, opg_un, u8, tyr, fgr, hkr, execOp, opd, opds, opt, ofValue, ofArr, ofList, ops2, putT, put, nth, forgetL, doCall, callV_func, builtin, one1, two2, some1, foldM2, min2, max2, blr, bCopy, intB, und, sizeOf, zeroOf, lenOf, bor, binInt, binOther, shiftB, shiftOp, intOp, wrapI, strOp, strK, intK, slK, aggK, unOp, doPick, branch, idx, readCells, cellsOf, oneOf, aggB, cel, alloc, doAlloc, newRow, nilCheck, extract, getO, ended, resultOf, oneOrTup, rowK, loopK, moved, fieldAddr, field, part, index, sameSz, equalTop, equal, nilFn, nilPtr, nilSl1, nilSl2, nilSl3, boolOf, List.getElem?_cons_succ, List.getElem?_cons_zero, List.append_eq, List.cons_append, List.nil_append, List.append_nil, List.length_cons, List.length_nil, Nat.reduceAdd, Nat.reduceSub, Nat.beq, Option.bind_some, nc0, nc1, Int.cast_ofNat_Int, int_beq, int_bne, str_beq, ↓reduceIte, Int.reduceEq, Int.reduceLT, Int.reduceLE, Int.reduceNe, Int.reduceAdd, Int.reduceSub, Int.reduceMul, Int.reduceNeg, Int.reduceGT, Int.reduceGE, ge_iff_le, gt_iff_lt, not_true_eq_false, not_false_eq_true, decide_not, decide_true, decide_false, Bool.not_true, Bool.not_false, Bool.and_true, Bool.true_and, Bool.and_false, Bool.false_and, Bool.or_true, Bool.true_or, Bool.or_false, Bool.false_or, and_true, true_and, and_self, Nat.zero_add, Nat.add_zero, Int.toNat_zero, Nat.zero_mul, wp_pure, beq_self_eq_true, bne_self_eq_false, reduceCtorEq, he, kx]
    exact o3
theorem f18 (h : Hp) (n : Nat) (hf : Free h n) : Wp (callI env (evalW env) 18 []) h n fun v' h' n' => v' = .bool true ∧ Old h h' n := by
  refine wp_callI ff18 fi18 ?_
  simp (disch := omega) only [fu18, Try.f18, Option.getD_some, List.replicate, core1, cont_block_any, opg_un, u8, tyr, fgr, hkr, execOp, opd, opds, opt, ofValue, ofArr, ofList, ops2, putT, put, nth, forgetL, doCall, callV_func, builtin, one1, two2, some1, foldM2, min2, max2, blr, bCopy, intB, und, sizeOf, zeroOf, lenOf, bor, binInt, binOther, shiftB, shiftOp, intOp, wrapI, strOp, strK, intK, slK, aggK, unOp, doPick, branch, idx, readCells, cellsOf, oneOf, aggB, cel, alloc, doAlloc, newRow, nilCheck, extract, getO, ended, resultOf, oneOrTup, rowK, loopK, moved, fieldAddr, field, part, index, sameSz, equalTop, equal, nilFn, nilPtr, nilSl1, nilSl2, nilSl3, boolOf, List.getElem?_cons_succ, List.getElem?_cons_zero, List.append_eq, List.cons_append, List.nil_append, List.append_nil, List.length_cons, List.length_nil, Nat.reduceAdd, Nat.reduceSub, Nat.beq, Option.bind_some, nc0, nc1, Int.cast_ofNat_Int, int_beq, int_bne, str_beq, ↓reduceIte, Int.reduceEq, Int.reduceLT, Int.reduceLE, Int.reduceNe, Int.reduceAdd, Int.reduceSub, Int.reduceMul, Int.reduceNeg, Int.reduceGT, Int.reduceGE, ge_iff_le, gt_iff_lt, not_true_eq_false, not_false_eq_true, decide_not, decide_true, decide_false, Bool.not_true, Bool.not_false, Bool.and_true, Bool.true_and, Bool.and_false, Bool.false_and, Bool.or_true, Bool.true_or, Bool.or_false, Bool.false_or, and_true, true_and, and_self, Nat.zero_add, Nat.add_zero, Int.toNat_zero, Nat.zero_mul, wp_pure, beq_self_eq_true, bne_self_eq_false, reduceCtorEq, memr, buildSlice, build, reps, fill, sizesOf, List.take_succ_cons, List.take_zero, List.drop_succ_cons, List.drop_zero, Nat.reduceMul, Nat.ble, Nat.reduceLeDiff, Nat.mul_one, Nat.one_mul, writeCells, setAll, Cont.size, Cont.set, Cont.at, Cont.sub, upd_same, upd_ne, List.all_cons, List.all_nil, Option.some.injEq, exists_eq_left', Int.reduceToNat, ne_eq, and_true, true_and, List.length_cons, List.length_nil, Nat.mul_zero, Nat.zero_mul, convert, convStr, isU8, touch, Nat.blt]
  obtain ⟨G, hG⟩ : ∃ G, G = upd (upd (upd h n (some (Blk.row (Cont.l [AVal.int IntKind.u8 97, AVal.int IntKind.u8 98]) 5))) n (some (Blk.row (Cont.l [AVal.int IntKind.u8 97, AVal.int IntKind.u8 98]) 5))) (n + 1)
      (some (Blk.row (Cont.l [AVal.int IntKind.u8 2, AVal.sl n 0 2 (some 2) 1, AVal.int IntKind.u8 97, AVal.nils, AVal.int IntKind.u8 0, AVal.nils]) 32)) := ⟨_, rfl⟩
  rw [← hG]
  have fG : Free G (n + 1 + 1) := by rw [hG]; exact (hf.new.upd (by omega)).new
  have oG : Old h G n := by rw [hG]; exact (((Old.refl _ _).upd (Nat.le_refl _)).upd (Nat.le_refl _)).upd (by omega)
  have b1 : Bytes G (.sl n 0 2 (some 2) 1) [97, 98] := Bytes.fresh (l := [97, 98]) (cap := some 2) (by rw [hG, upd_ne _ _ (by omega)]; exact upd_same _ _ _)
  have k1 : G (n + 1) = some (Blk.row (Cont.l [u8 2, AVal.sl n 0 2 (some 2) 1, u8 97, AVal.nils, u8 0, AVal.nils]) 32) := by rw [hG]; exact upd_same _ _ _
  have hv : OpsV G (n + 1 + 1) (fun _ => False) (.sl (n + 1) 0 3 (some 3) 2) aliveOs :=
    ⟨_, .full (n + 1) 3 _ 32 (by omega) k1 rfl, .cons 2 _ _ _ _ b1 (show n < n + 1 + 1 by omega) (Nat.le_refl 2) (fun j hj e => by
      injection hj with hj
      rcases e with e | e
      · injection e with e; omega
      · exact e) (.cons 97 .nils [] _ _ .nils trivial trivial (fun j hj => by cases hj) (.cons 0 .nils [] _ _ .nils trivial trivial (fun j hj => by cases hj) .nil)), fun _ _ e => e⟩
  refine opv_callf fG (f26 [2, 97, 98, 97, 0] _ aliveOs G (n + 1 + 1) fG hv.k (by decide) (by decide)) fun v0 h3 n3 hn3 hf3 ⟨e3, old3⟩ => ?_
  have e0 : errV [2, 97, 98, 97, 0] = 0 := by unfold errV; rw [alive_split]
  have e1 : osV [2, 97, 98, 97, 0] = aliveOs := by unfold osV; rw [alive_split]
  subst e3
  rw [e0, e1]
  simp only [core1, cont_block_any, opg_un, u8, tyr, fgr, hkr, execOp, opd, opds, opt, ofValue, ofArr, ofList, ops2, putT, put, nth, forgetL, doCall, callV_func, builtin, one1, two2, some1, foldM2, min2, max2, blr, bCopy, intB, und, sizeOf, zeroOf, lenOf, bor, binInt, binOther, shiftB, shiftOp, intOp, wrapI, strOp, strK, intK, slK, aggK, unOp, doPick, branch, idx, readCells, cellsOf, oneOf, aggB, cel, alloc, doAlloc, newRow, nilCheck, extract, getO, ended, resultOf, oneOrTup, rowK, loopK, moved, fieldAddr, field, part, index, sameSz, equalTop, equal, nilFn, nilPtr, nilSl1, nilSl2, nilSl3, boolOf, List.getElem?_cons_succ, List.getElem?_cons_zero, List.append_eq, List.cons_append, List.nil_append, List.append_nil, List.length_cons, List.length_nil, Nat.reduceAdd, Nat.reduceSub, Nat.beq, Option.bind_some, nc0, nc1, Int.cast_ofNat_Int, int_beq, int_bne, str_beq, ↓reduceIte, Int.reduceEq, Int.reduceLT, Int.reduceLE, Int.reduceNe, Int.reduceAdd, Int.reduceSub, Int.reduceMul, Int.reduceNeg, Int.reduceGT, Int.reduceGE, ge_iff_le, gt_iff_lt, not_true_eq_false, not_false_eq_true, decide_not, decide_true, decide_false, Bool.not_true, Bool.not_false, Bool.and_true, Bool.true_and, Bool.and_false, Bool.false_and, Bool.or_true, Bool.true_or, Bool.or_false, Bool.false_or, and_true, true_and, and_self, Nat.zero_add, Nat.add_zero, Int.toNat_zero, Nat.zero_mul, wp_pure, beq_self_eq_true, bne_self_eq_false, reduceCtorEq]
  exact oG.trans old3 (by omega)
/- A script is its operations, joined; operations that may be, joined, are split as they were. -/
theorem err_yes {l : List UInt8} (h : (splitV l).2 = true) : errV l = 0 ∧ osV l = (splitV l).1 := by unfold errV osV; rw [h]; exact ⟨rfl, rfl⟩
theorem err_no {l : List UInt8} (h : (splitV l).2 = false) : errV l = 100 ∧ osV l = [] := by unfold errV osV; rw [h]; exact ⟨rfl, rfl⟩
theorem osV_short {l : List UInt8} : (osV l).length ≤ l.length := by
  unfold osV
  cases (splitV l).2 with
  | true => exact (split_short l.length l (Nat.le_refl _)).1
  | false => exact Nat.zero_le _
end Go.Am.Ytfebaeelmnchiaa
