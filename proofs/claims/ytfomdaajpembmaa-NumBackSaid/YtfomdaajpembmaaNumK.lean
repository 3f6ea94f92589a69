/- A number is read from its bytes as it was. -/
-- env NumEnv
import Derived.Test.YtfomdaajpembmaaNumJ
import Derived.Test.YtfomdaajpembmaaNumC
set_option linter.unusedSimpArgs false
set_option linter.unusedVariables false
set_option linter.defProp false
set_option maxRecDepth 10000
namespace Go.Am.Ytfomdaajpembmaa
open Go Go.Am Go.Proofs
theorem wf64 {a : Int} (w : (Lit.int .i64 a).wf = true) : -9223372036854775808 ≤ a ∧ a ≤ 9223372036854775807 := by
  simp only [Lit.wf, Bool.and_eq_true, decide_eq_true_eq] at w
  exact w
theorem decB_small {x : Int} (h : -2147483647 ≤ x ∧ x ≤ 2147483647) : decB (fmB x) = true ∧ num4 (fmB x) = x := by
  have g := (fm_all x (by omega) (by omega)).2.2.1 h
  refine ⟨?_, g.2⟩
  unfold decB
  rw [g.2, decide_eq_true g.1]; simp
theorem decB_big {x : Int} (h1 : -549755813888 < x) (h2 : x < 549755813888) (h : ¬ (-2147483647 ≤ x ∧ x ≤ 2147483647)) : decB (fmB x) = false := by
  have g := (fm_all x h1 h2).2.2.2 h
  unfold decB
  rw [g]; simp
theorem decB_fm {l : List UInt8} (h : decB l = true) : fmB (num4 l) = l := by
  unfold decB at h
  simp only [Bool.and_eq_true, decide_eq_true_eq] at h
  exact h.2
set_option maxHeartbeats 2000000 in
theorem law3 (a : Int) (w : (Lit.int .i64 a).wf = true) (v : AVal) (l : List UInt8) (hv : ArgBytes v l) : Wp (callI env (evalW env) 3 [.int .i64 a, v]) (fun _ => none) 0 fun v _ _ => v = .bool true := by
  have hr := wf64 w
  refine wp_callI ff3 fi3 ?_
  simp only [fu3, Try.f3, Option.getD_some, List.replicate, core1, cont_block_any, opg_un, u8, tyr, fgr, hkr, execOp, opd, opds, opt, ofValue, ofArr, ofList, ops2, putT, put, nth, forgetL, doCall, callV_func, builtin, one1, two2, some1, foldM2, min2, max2, blr, bCopy, intB, und, sizeOf, zeroOf, lenOf, binOp, binInt, binOther, shiftB, shiftOp, intOp, wrapI, strOp, strK, intK, slK, aggK, unOp, doPick, branch, idx, readCells, cellsOf, oneOf, aggB, cel, alloc, doAlloc, newRow, nilCheck, extract, getO, ended, resultOf, oneOrTup, rowK, loopK, moved, fieldAddr, field, part, index, sameSz, equalTop, equal, nilFn, nilPtr, nilSl, boolOf, List.getElem?_cons_succ, List.getElem?_cons_zero, List.append_eq, List.cons_append, List.nil_append, List.append_nil, List.length_cons, List.length_nil, Nat.reduceAdd, Nat.reduceSub, Nat.beq, Option.bind_some, nc0, nc1, Int.cast_ofNat_Int, int_beq, int_bne, str_beq, ↓reduceIte, Int.reduceEq, Int.reduceLT, Int.reduceLE, Int.reduceNe, Int.reduceAdd, Int.reduceSub, Int.reduceMul, Int.reduceNeg, Int.reduceGT, Int.reduceGE, ge_iff_le, gt_iff_lt, not_true_eq_false, not_false_eq_true, decide_not, decide_true, decide_false, Bool.not_true, Bool.not_false, Bool.and_true, Bool.true_and, Bool.and_false, Bool.false_and, Bool.or_true, Bool.true_or, Bool.or_false, Bool.false_or, and_true, true_and, and_self, Nat.zero_add, Nat.add_zero, Int.toNat_zero, Nat.zero_mul, wp_pure, beq_self_eq_true, bne_self_eq_false, reduceCtorEq]
  refine opv_call alive_wp fun v0 h n _ h0 => ?_
  subst h0
  have hb := hv.bytes h
  by_cases hl : 100 < ((l.length : Nat) : Int)
  · simp only [core1, cont_block_any, opg_un, u8, tyr, fgr, hkr, execOp, opd, opds, opt, ofValue, ofArr, ofList, ops2, putT, put, nth, forgetL, doCall, callV_func, builtin, one1, two2, some1, foldM2, min2, max2, blr, bCopy, intB, und, sizeOf, zeroOf, lenOf, binOp, binInt, binOther, shiftB, shiftOp, intOp, wrapI, strOp, strK, intK, slK, aggK, unOp, doPick, branch, idx, readCells, cellsOf, oneOf, aggB, cel, alloc, doAlloc, newRow, nilCheck, extract, getO, ended, resultOf, oneOrTup, rowK, loopK, moved, fieldAddr, field, part, index, sameSz, equalTop, equal, nilFn, nilPtr, nilSl, boolOf, List.getElem?_cons_succ, List.getElem?_cons_zero, List.append_eq, List.cons_append, List.nil_append, List.append_nil, List.length_cons, List.length_nil, Nat.reduceAdd, Nat.reduceSub, Nat.beq, Option.bind_some, nc0, nc1, Int.cast_ofNat_Int, int_beq, int_bne, str_beq, ↓reduceIte, Int.reduceEq, Int.reduceLT, Int.reduceLE, Int.reduceNe, Int.reduceAdd, Int.reduceSub, Int.reduceMul, Int.reduceNeg, Int.reduceGT, Int.reduceGE, ge_iff_le, gt_iff_lt, not_true_eq_false, not_false_eq_true, decide_not, decide_true, decide_false, Bool.not_true, Bool.not_false, Bool.and_true, Bool.true_and, Bool.and_false, Bool.false_and, Bool.or_true, Bool.true_or, Bool.or_false, Bool.false_or, and_true, true_and, and_self, Nat.zero_add, Nat.add_zero, Int.toNat_zero, Nat.zero_mul, wp_pure, beq_self_eq_true, bne_self_eq_false, reduceCtorEq, hb.bLen t22, hl]
  simp only [core1, cont_block_any, opg_un, u8, tyr, fgr, hkr, execOp, opd, opds, opt, ofValue, ofArr, ofList, ops2, putT, put, nth, forgetL, doCall, callV_func, builtin, one1, two2, some1, foldM2, min2, max2, blr, bCopy, intB, und, sizeOf, zeroOf, lenOf, binOp, binInt, binOther, shiftB, shiftOp, intOp, wrapI, strOp, strK, intK, slK, aggK, unOp, doPick, branch, idx, readCells, cellsOf, oneOf, aggB, cel, alloc, doAlloc, newRow, nilCheck, extract, getO, ended, resultOf, oneOrTup, rowK, loopK, moved, fieldAddr, field, part, index, sameSz, equalTop, equal, nilFn, nilPtr, nilSl, boolOf, List.getElem?_cons_succ, List.getElem?_cons_zero, List.append_eq, List.cons_append, List.nil_append, List.append_nil, List.length_cons, List.length_nil, Nat.reduceAdd, Nat.reduceSub, Nat.beq, Option.bind_some, nc0, nc1, Int.cast_ofNat_Int, int_beq, int_bne, str_beq, ↓reduceIte, Int.reduceEq, Int.reduceLT, Int.reduceLE, Int.reduceNe, Int.reduceAdd, Int.reduceSub, Int.reduceMul, Int.reduceNeg, Int.reduceGT, Int.reduceGE, ge_iff_le, gt_iff_lt, not_true_eq_false, not_false_eq_true, decide_not, decide_true, decide_false, Bool.not_true, Bool.not_false, Bool.and_true, Bool.true_and, Bool.and_false, Bool.false_and, Bool.or_true, Bool.true_or, Bool.or_false, Bool.false_or, and_true, true_and, and_self, Nat.zero_add, Nat.add_zero, Int.toNat_zero, Nat.zero_mul, wp_pure, beq_self_eq_true, bne_self_eq_false, reduceCtorEq, hb.bLen t22, hl]
  refine opv_call (f11 a hr.1 hr.2 h n) fun v0 h1 n1 hn1 ⟨s, e0, hbs, hbel, hold⟩ => ?_
  subst e0
  have hb1 := hv.bytes h1
  have hl2 : l.length < 1000000 := by omega
  cases hw : wideB a with
  | true =>
    have g1 : encE a = 110 := by simp only [encE, hw]
    simp only [core1, cont_block_any, opg_un, u8, tyr, fgr, hkr, execOp, opd, opds, opt, ofValue, ofArr, ofList, ops2, putT, put, nth, forgetL, doCall, callV_func, builtin, one1, two2, some1, foldM2, min2, max2, blr, bCopy, intB, und, sizeOf, zeroOf, lenOf, binOp, binInt, binOther, shiftB, shiftOp, intOp, wrapI, strOp, strK, intK, slK, aggK, unOp, doPick, branch, idx, readCells, cellsOf, oneOf, aggB, cel, alloc, doAlloc, newRow, nilCheck, extract, getO, ended, resultOf, oneOrTup, rowK, loopK, moved, fieldAddr, field, part, index, sameSz, equalTop, equal, nilFn, nilPtr, nilSl, boolOf, List.getElem?_cons_succ, List.getElem?_cons_zero, List.append_eq, List.cons_append, List.nil_append, List.append_nil, List.length_cons, List.length_nil, Nat.reduceAdd, Nat.reduceSub, Nat.beq, Option.bind_some, nc0, nc1, Int.cast_ofNat_Int, int_beq, int_bne, str_beq, ↓reduceIte, Int.reduceEq, Int.reduceLT, Int.reduceLE, Int.reduceNe, Int.reduceAdd, Int.reduceSub, Int.reduceMul, Int.reduceNeg, Int.reduceGT, Int.reduceGE, ge_iff_le, gt_iff_lt, not_true_eq_false, not_false_eq_true, decide_not, decide_true, decide_false, Bool.not_true, Bool.not_false, Bool.and_true, Bool.true_and, Bool.and_false, Bool.false_and, Bool.or_true, Bool.true_or, Bool.or_false, Bool.false_or, and_true, true_and, and_self, Nat.zero_add, Nat.add_zero, Int.toNat_zero, Nat.zero_mul, wp_pure, beq_self_eq_true, bne_self_eq_false, reduceCtorEq, g1]
    refine opv_call (f12 v l h1 n1 (hv.bytes h1) (hv.below n1) hl2) fun v0 h5 n5 hn5 ⟨e5, hold5⟩ => ?_
    subst e5
    cases hd : decB l with
    | false =>
      have q1 : decN l = 0 := by simp only [decN, hd]
      have q2 : decE l = 110 := by simp only [decE, hd]
      simp only [core1, cont_block_any, opg_un, u8, tyr, fgr, hkr, execOp, opd, opds, opt, ofValue, ofArr, ofList, ops2, putT, put, nth, forgetL, doCall, callV_func, builtin, one1, two2, some1, foldM2, min2, max2, blr, bCopy, intB, und, sizeOf, zeroOf, lenOf, binOp, binInt, binOther, shiftB, shiftOp, intOp, wrapI, strOp, strK, intK, slK, aggK, unOp, doPick, branch, idx, readCells, cellsOf, oneOf, aggB, cel, alloc, doAlloc, newRow, nilCheck, extract, getO, ended, resultOf, oneOrTup, rowK, loopK, moved, fieldAddr, field, part, index, sameSz, equalTop, equal, nilFn, nilPtr, nilSl, boolOf, List.getElem?_cons_succ, List.getElem?_cons_zero, List.append_eq, List.cons_append, List.nil_append, List.append_nil, List.length_cons, List.length_nil, Nat.reduceAdd, Nat.reduceSub, Nat.beq, Option.bind_some, nc0, nc1, Int.cast_ofNat_Int, int_beq, int_bne, str_beq, ↓reduceIte, Int.reduceEq, Int.reduceLT, Int.reduceLE, Int.reduceNe, Int.reduceAdd, Int.reduceSub, Int.reduceMul, Int.reduceNeg, Int.reduceGT, Int.reduceGE, ge_iff_le, gt_iff_lt, not_true_eq_false, not_false_eq_true, decide_not, decide_true, decide_false, Bool.not_true, Bool.not_false, Bool.and_true, Bool.true_and, Bool.and_false, Bool.false_and, Bool.or_true, Bool.true_or, Bool.or_false, Bool.false_or, and_true, true_and, and_self, Nat.zero_add, Nat.add_zero, Int.toNat_zero, Nat.zero_mul, wp_pure, beq_self_eq_true, bne_self_eq_false, reduceCtorEq, q1, q2]
    | true =>
      have q1 : decN l = num4 l := by simp only [decN, hd]
      have q2 : decE l = 0 := by simp only [decE, hd]
      have q3 := num4_r l
      have q4 : wideB (num4 l) = false := by unfold wideB; rw [decide_eq_false (by omega), decide_eq_false (by omega)]; rfl
      simp only [core1, cont_block_any, opg_un, u8, tyr, fgr, hkr, execOp, opd, opds, opt, ofValue, ofArr, ofList, ops2, putT, put, nth, forgetL, doCall, callV_func, builtin, one1, two2, some1, foldM2, min2, max2, blr, bCopy, intB, und, sizeOf, zeroOf, lenOf, binOp, binInt, binOther, shiftB, shiftOp, intOp, wrapI, strOp, strK, intK, slK, aggK, unOp, doPick, branch, idx, readCells, cellsOf, oneOf, aggB, cel, alloc, doAlloc, newRow, nilCheck, extract, getO, ended, resultOf, oneOrTup, rowK, loopK, moved, fieldAddr, field, part, index, sameSz, equalTop, equal, nilFn, nilPtr, nilSl, boolOf, List.getElem?_cons_succ, List.getElem?_cons_zero, List.append_eq, List.cons_append, List.nil_append, List.append_nil, List.length_cons, List.length_nil, Nat.reduceAdd, Nat.reduceSub, Nat.beq, Option.bind_some, nc0, nc1, Int.cast_ofNat_Int, int_beq, int_bne, str_beq, ↓reduceIte, Int.reduceEq, Int.reduceLT, Int.reduceLE, Int.reduceNe, Int.reduceAdd, Int.reduceSub, Int.reduceMul, Int.reduceNeg, Int.reduceGT, Int.reduceGE, ge_iff_le, gt_iff_lt, not_true_eq_false, not_false_eq_true, decide_not, decide_true, decide_false, Bool.not_true, Bool.not_false, Bool.and_true, Bool.true_and, Bool.and_false, Bool.false_and, Bool.or_true, Bool.true_or, Bool.or_false, Bool.false_or, and_true, true_and, and_self, Nat.zero_add, Nat.add_zero, Int.toNat_zero, Nat.zero_mul, wp_pure, beq_self_eq_true, bne_self_eq_false, reduceCtorEq, q1, q2]
      refine opv_call (f11 (num4 l) (by omega) (by omega) h5 n5) fun v0 h6 n6 hn6 ⟨s6, e6, hbs6, hbel6, hold6⟩ => ?_
      subst e6
      have q5 : encE (num4 l) = 0 := by simp only [encE, q4]
      have q6 : encL (num4 l) = l := by simp only [encL, q4]; exact decB_fm hd
      rw [q6] at hbs6
      have q7 := (fm_all (num4 l) (by omega) (by omega)).1
      rw [decB_fm hd] at q7
      have q8 : tv l = decide (¬ num4 l = 0) := by
        by_cases hz : num4 l = 0
        · rw [decide_eq_false (by simpa using hz)]
          cases ht : tv l with
          | false => rfl
          | true => exact absurd hz (q7.1 ht)
        · rw [decide_eq_true hz]; exact q7.2 hz
      have hb6 := hv.bytes h6
      cases hz : decide (num4 l = 0) <;>
      simp only [core1, cont_block_any, opg_un, u8, tyr, fgr, hkr, execOp, opd, opds, opt, ofValue, ofArr, ofList, ops2, putT, put, nth, forgetL, doCall, callV_func, builtin, one1, two2, some1, foldM2, min2, max2, blr, bCopy, intB, und, sizeOf, zeroOf, lenOf, binOp, binInt, binOther, shiftB, shiftOp, intOp, wrapI, strOp, strK, intK, slK, aggK, unOp, doPick, branch, idx, readCells, cellsOf, oneOf, aggB, cel, alloc, doAlloc, newRow, nilCheck, extract, getO, ended, resultOf, oneOrTup, rowK, loopK, moved, fieldAddr, field, part, index, sameSz, equalTop, equal, nilFn, nilPtr, nilSl, boolOf, List.getElem?_cons_succ, List.getElem?_cons_zero, List.append_eq, List.cons_append, List.nil_append, List.append_nil, List.length_cons, List.length_nil, Nat.reduceAdd, Nat.reduceSub, Nat.beq, Option.bind_some, nc0, nc1, Int.cast_ofNat_Int, int_beq, int_bne, str_beq, ↓reduceIte, Int.reduceEq, Int.reduceLT, Int.reduceLE, Int.reduceNe, Int.reduceAdd, Int.reduceSub, Int.reduceMul, Int.reduceNeg, Int.reduceGT, Int.reduceGE, ge_iff_le, gt_iff_lt, not_true_eq_false, not_false_eq_true, decide_not, decide_true, decide_false, Bool.not_true, Bool.not_false, Bool.and_true, Bool.true_and, Bool.and_false, Bool.false_and, Bool.or_true, Bool.true_or, Bool.or_false, Bool.false_or, and_true, true_and, and_self, Nat.zero_add, Nat.add_zero, Int.toNat_zero, Nat.zero_mul, wp_pure, beq_self_eq_true, bne_self_eq_false, reduceCtorEq, q5, hbs6.str t22 t9 t5, hb6.str t22 t9 t5, eq_self, opv_det (f13 v l h6 n6 hb6 hl2), q8, hz]
  | false =>
    have g1 : encE a = 0 := by simp only [encE, hw]
    have g2 : encL a = fmB a := by simp only [encL, hw]
    rw [g2] at hbs
    have hw2 : -549755813888 < a ∧ a < 549755813888 := by
      unfold wideB at hw
      simp only [Bool.or_eq_false_iff, decide_eq_false_iff_not] at hw
      omega
    have good := fm_all a hw2.1 hw2.2
    have hfl : (fmB a).length < 1000000 := by have := good.2.1; omega
    have g3 : tv (fmB a) = decide (¬ a = 0) := by
      by_cases hz : a = 0
      · rw [decide_eq_false (by simpa using hz)]
        cases ht : tv (fmB a) with
        | false => rfl
        | true => exact absurd hz (good.1.1 ht)
      · rw [decide_eq_true hz]; exact good.1.2 hz
    simp only [core1, cont_block_any, opg_un, u8, tyr, fgr, hkr, execOp, opd, opds, opt, ofValue, ofArr, ofList, ops2, putT, put, nth, forgetL, doCall, callV_func, builtin, one1, two2, some1, foldM2, min2, max2, blr, bCopy, intB, und, sizeOf, zeroOf, lenOf, binOp, binInt, binOther, shiftB, shiftOp, intOp, wrapI, strOp, strK, intK, slK, aggK, unOp, doPick, branch, idx, readCells, cellsOf, oneOf, aggB, cel, alloc, doAlloc, newRow, nilCheck, extract, getO, ended, resultOf, oneOrTup, rowK, loopK, moved, fieldAddr, field, part, index, sameSz, equalTop, equal, nilFn, nilPtr, nilSl, boolOf, List.getElem?_cons_succ, List.getElem?_cons_zero, List.append_eq, List.cons_append, List.nil_append, List.append_nil, List.length_cons, List.length_nil, Nat.reduceAdd, Nat.reduceSub, Nat.beq, Option.bind_some, nc0, nc1, Int.cast_ofNat_Int, int_beq, int_bne, str_beq, ↓reduceIte, Int.reduceEq, Int.reduceLT, Int.reduceLE, Int.reduceNe, Int.reduceAdd, Int.reduceSub, Int.reduceMul, Int.reduceNeg, Int.reduceGT, Int.reduceGE, ge_iff_le, gt_iff_lt, not_true_eq_false, not_false_eq_true, decide_not, decide_true, decide_false, Bool.not_true, Bool.not_false, Bool.and_true, Bool.true_and, Bool.and_false, Bool.false_and, Bool.or_true, Bool.true_or, Bool.or_false, Bool.false_or, and_true, true_and, and_self, Nat.zero_add, Nat.add_zero, Int.toNat_zero, Nat.zero_mul, wp_pure, beq_self_eq_true, bne_self_eq_false, reduceCtorEq, g1]
    refine opv_call (f12 s (fmB a) h1 n1 hbs hbel hfl) fun v0 h2 n2 hn2 ⟨e2, hold2⟩ => ?_
    subst e2
    have hbs2 := hbs.old hbel hold2
    have k5 : ¬ (5 < (((fmB a).length : Nat) : Int)) := by have := good.2.1; omega
    by_cases hs1 : -2147483647 ≤ a
    · by_cases hs2 : a ≤ 2147483647
      · have hs := decB_small ⟨hs1, hs2⟩
        have d1 : decN (fmB a) = a := by simp only [decN, hs.1, hs.2]
        have d2 : decE (fmB a) = 0 := by simp only [decE, hs.1]
        have k4 : ¬ (4 < (((fmB a).length : Nat) : Int)) := by have := (good.2.2.1 ⟨hs1, hs2⟩).1; omega
        cases hz : decide (a = 0) <;>
        simp only [core1, cont_block_any, opg_un, u8, tyr, fgr, hkr, execOp, opd, opds, opt, ofValue, ofArr, ofList, ops2, putT, put, nth, forgetL, doCall, callV_func, builtin, one1, two2, some1, foldM2, min2, max2, blr, bCopy, intB, und, sizeOf, zeroOf, lenOf, binOp, binInt, binOther, shiftB, shiftOp, intOp, wrapI, strOp, strK, intK, slK, aggK, unOp, doPick, branch, idx, readCells, cellsOf, oneOf, aggB, cel, alloc, doAlloc, newRow, nilCheck, extract, getO, ended, resultOf, oneOrTup, rowK, loopK, moved, fieldAddr, field, part, index, sameSz, equalTop, equal, nilFn, nilPtr, nilSl, boolOf, List.getElem?_cons_succ, List.getElem?_cons_zero, List.append_eq, List.cons_append, List.nil_append, List.append_nil, List.length_cons, List.length_nil, Nat.reduceAdd, Nat.reduceSub, Nat.beq, Option.bind_some, nc0, nc1, Int.cast_ofNat_Int, int_beq, int_bne, str_beq, ↓reduceIte, Int.reduceEq, Int.reduceLT, Int.reduceLE, Int.reduceNe, Int.reduceAdd, Int.reduceSub, Int.reduceMul, Int.reduceNeg, Int.reduceGT, Int.reduceGE, ge_iff_le, gt_iff_lt, not_true_eq_false, not_false_eq_true, decide_not, decide_true, decide_false, Bool.not_true, Bool.not_false, Bool.and_true, Bool.true_and, Bool.and_false, Bool.false_and, Bool.or_true, Bool.true_or, Bool.or_false, Bool.false_or, and_true, true_and, and_self, Nat.zero_add, Nat.add_zero, Int.toNat_zero, Nat.zero_mul, wp_pure, beq_self_eq_true, bne_self_eq_false, reduceCtorEq, d1, d2, hs1, hs2, eq_self, opv_det (f13 s (fmB a) h2 n2 hbs2 hfl), g3, hz, hbs2.bLen t22, k5, k4]
        · refine opv_call (f12 v l h2 n2 (hv.bytes h2) (hv.below n2) hl2) fun v0 h5 n5 hn5 ⟨e5, hold5⟩ => ?_
          subst e5
          cases hd : decB l with
          | false =>
            have q1 : decN l = 0 := by simp only [decN, hd]
            have q2 : decE l = 110 := by simp only [decE, hd]
            simp only [core1, cont_block_any, opg_un, u8, tyr, fgr, hkr, execOp, opd, opds, opt, ofValue, ofArr, ofList, ops2, putT, put, nth, forgetL, doCall, callV_func, builtin, one1, two2, some1, foldM2, min2, max2, blr, bCopy, intB, und, sizeOf, zeroOf, lenOf, binOp, binInt, binOther, shiftB, shiftOp, intOp, wrapI, strOp, strK, intK, slK, aggK, unOp, doPick, branch, idx, readCells, cellsOf, oneOf, aggB, cel, alloc, doAlloc, newRow, nilCheck, extract, getO, ended, resultOf, oneOrTup, rowK, loopK, moved, fieldAddr, field, part, index, sameSz, equalTop, equal, nilFn, nilPtr, nilSl, boolOf, List.getElem?_cons_succ, List.getElem?_cons_zero, List.append_eq, List.cons_append, List.nil_append, List.append_nil, List.length_cons, List.length_nil, Nat.reduceAdd, Nat.reduceSub, Nat.beq, Option.bind_some, nc0, nc1, Int.cast_ofNat_Int, int_beq, int_bne, str_beq, ↓reduceIte, Int.reduceEq, Int.reduceLT, Int.reduceLE, Int.reduceNe, Int.reduceAdd, Int.reduceSub, Int.reduceMul, Int.reduceNeg, Int.reduceGT, Int.reduceGE, ge_iff_le, gt_iff_lt, not_true_eq_false, not_false_eq_true, decide_not, decide_true, decide_false, Bool.not_true, Bool.not_false, Bool.and_true, Bool.true_and, Bool.and_false, Bool.false_and, Bool.or_true, Bool.true_or, Bool.or_false, Bool.false_or, and_true, true_and, and_self, Nat.zero_add, Nat.add_zero, Int.toNat_zero, Nat.zero_mul, wp_pure, beq_self_eq_true, bne_self_eq_false, reduceCtorEq, q1, q2]
          | true =>
            have q1 : decN l = num4 l := by simp only [decN, hd]
            have q2 : decE l = 0 := by simp only [decE, hd]
            have q3 := num4_r l
            have q4 : wideB (num4 l) = false := by unfold wideB; rw [decide_eq_false (by omega), decide_eq_false (by omega)]; rfl
            simp only [core1, cont_block_any, opg_un, u8, tyr, fgr, hkr, execOp, opd, opds, opt, ofValue, ofArr, ofList, ops2, putT, put, nth, forgetL, doCall, callV_func, builtin, one1, two2, some1, foldM2, min2, max2, blr, bCopy, intB, und, sizeOf, zeroOf, lenOf, binOp, binInt, binOther, shiftB, shiftOp, intOp, wrapI, strOp, strK, intK, slK, aggK, unOp, doPick, branch, idx, readCells, cellsOf, oneOf, aggB, cel, alloc, doAlloc, newRow, nilCheck, extract, getO, ended, resultOf, oneOrTup, rowK, loopK, moved, fieldAddr, field, part, index, sameSz, equalTop, equal, nilFn, nilPtr, nilSl, boolOf, List.getElem?_cons_succ, List.getElem?_cons_zero, List.append_eq, List.cons_append, List.nil_append, List.append_nil, List.length_cons, List.length_nil, Nat.reduceAdd, Nat.reduceSub, Nat.beq, Option.bind_some, nc0, nc1, Int.cast_ofNat_Int, int_beq, int_bne, str_beq, ↓reduceIte, Int.reduceEq, Int.reduceLT, Int.reduceLE, Int.reduceNe, Int.reduceAdd, Int.reduceSub, Int.reduceMul, Int.reduceNeg, Int.reduceGT, Int.reduceGE, ge_iff_le, gt_iff_lt, not_true_eq_false, not_false_eq_true, decide_not, decide_true, decide_false, Bool.not_true, Bool.not_false, Bool.and_true, Bool.true_and, Bool.and_false, Bool.false_and, Bool.or_true, Bool.true_or, Bool.or_false, Bool.false_or, and_true, true_and, and_self, Nat.zero_add, Nat.add_zero, Int.toNat_zero, Nat.zero_mul, wp_pure, beq_self_eq_true, bne_self_eq_false, reduceCtorEq, q1, q2]
            refine opv_call (f11 (num4 l) (by omega) (by omega) h5 n5) fun v0 h6 n6 hn6 ⟨s6, e6, hbs6, hbel6, hold6⟩ => ?_
            subst e6
            have q5 : encE (num4 l) = 0 := by simp only [encE, q4]
            have q6 : encL (num4 l) = l := by simp only [encL, q4]; exact decB_fm hd
            rw [q6] at hbs6
            have q7 := (fm_all (num4 l) (by omega) (by omega)).1
            rw [decB_fm hd] at q7
            have q8 : tv l = decide (¬ num4 l = 0) := by
              by_cases hz : num4 l = 0
              · rw [decide_eq_false (by simpa using hz)]
                cases ht : tv l with
                | false => rfl
                | true => exact absurd hz (q7.1 ht)
              · rw [decide_eq_true hz]; exact q7.2 hz
            have hb6 := hv.bytes h6
            cases hz : decide (num4 l = 0) <;>
            simp only [core1, cont_block_any, opg_un, u8, tyr, fgr, hkr, execOp, opd, opds, opt, ofValue, ofArr, ofList, ops2, putT, put, nth, forgetL, doCall, callV_func, builtin, one1, two2, some1, foldM2, min2, max2, blr, bCopy, intB, und, sizeOf, zeroOf, lenOf, binOp, binInt, binOther, shiftB, shiftOp, intOp, wrapI, strOp, strK, intK, slK, aggK, unOp, doPick, branch, idx, readCells, cellsOf, oneOf, aggB, cel, alloc, doAlloc, newRow, nilCheck, extract, getO, ended, resultOf, oneOrTup, rowK, loopK, moved, fieldAddr, field, part, index, sameSz, equalTop, equal, nilFn, nilPtr, nilSl, boolOf, List.getElem?_cons_succ, List.getElem?_cons_zero, List.append_eq, List.cons_append, List.nil_append, List.append_nil, List.length_cons, List.length_nil, Nat.reduceAdd, Nat.reduceSub, Nat.beq, Option.bind_some, nc0, nc1, Int.cast_ofNat_Int, int_beq, int_bne, str_beq, ↓reduceIte, Int.reduceEq, Int.reduceLT, Int.reduceLE, Int.reduceNe, Int.reduceAdd, Int.reduceSub, Int.reduceMul, Int.reduceNeg, Int.reduceGT, Int.reduceGE, ge_iff_le, gt_iff_lt, not_true_eq_false, not_false_eq_true, decide_not, decide_true, decide_false, Bool.not_true, Bool.not_false, Bool.and_true, Bool.true_and, Bool.and_false, Bool.false_and, Bool.or_true, Bool.true_or, Bool.or_false, Bool.false_or, and_true, true_and, and_self, Nat.zero_add, Nat.add_zero, Int.toNat_zero, Nat.zero_mul, wp_pure, beq_self_eq_true, bne_self_eq_false, reduceCtorEq, q5, hbs6.str t22 t9 t5, hb6.str t22 t9 t5, eq_self, opv_det (f13 v l h6 n6 hb6 hl2), q8, hz]
        · refine opv_call (f12 v l h2 n2 (hv.bytes h2) (hv.below n2) hl2) fun v0 h5 n5 hn5 ⟨e5, hold5⟩ => ?_
          subst e5
          cases hd : decB l with
          | false =>
            have q1 : decN l = 0 := by simp only [decN, hd]
            have q2 : decE l = 110 := by simp only [decE, hd]
            simp only [core1, cont_block_any, opg_un, u8, tyr, fgr, hkr, execOp, opd, opds, opt, ofValue, ofArr, ofList, ops2, putT, put, nth, forgetL, doCall, callV_func, builtin, one1, two2, some1, foldM2, min2, max2, blr, bCopy, intB, und, sizeOf, zeroOf, lenOf, binOp, binInt, binOther, shiftB, shiftOp, intOp, wrapI, strOp, strK, intK, slK, aggK, unOp, doPick, branch, idx, readCells, cellsOf, oneOf, aggB, cel, alloc, doAlloc, newRow, nilCheck, extract, getO, ended, resultOf, oneOrTup, rowK, loopK, moved, fieldAddr, field, part, index, sameSz, equalTop, equal, nilFn, nilPtr, nilSl, boolOf, List.getElem?_cons_succ, List.getElem?_cons_zero, List.append_eq, List.cons_append, List.nil_append, List.append_nil, List.length_cons, List.length_nil, Nat.reduceAdd, Nat.reduceSub, Nat.beq, Option.bind_some, nc0, nc1, Int.cast_ofNat_Int, int_beq, int_bne, str_beq, ↓reduceIte, Int.reduceEq, Int.reduceLT, Int.reduceLE, Int.reduceNe, Int.reduceAdd, Int.reduceSub, Int.reduceMul, Int.reduceNeg, Int.reduceGT, Int.reduceGE, ge_iff_le, gt_iff_lt, not_true_eq_false, not_false_eq_true, decide_not, decide_true, decide_false, Bool.not_true, Bool.not_false, Bool.and_true, Bool.true_and, Bool.and_false, Bool.false_and, Bool.or_true, Bool.true_or, Bool.or_false, Bool.false_or, and_true, true_and, and_self, Nat.zero_add, Nat.add_zero, Int.toNat_zero, Nat.zero_mul, wp_pure, beq_self_eq_true, bne_self_eq_false, reduceCtorEq, q1, q2]
          | true =>
            have q1 : decN l = num4 l := by simp only [decN, hd]
            have q2 : decE l = 0 := by simp only [decE, hd]
            have q3 := num4_r l
            have q4 : wideB (num4 l) = false := by unfold wideB; rw [decide_eq_false (by omega), decide_eq_false (by omega)]; rfl
            simp only [core1, cont_block_any, opg_un, u8, tyr, fgr, hkr, execOp, opd, opds, opt, ofValue, ofArr, ofList, ops2, putT, put, nth, forgetL, doCall, callV_func, builtin, one1, two2, some1, foldM2, min2, max2, blr, bCopy, intB, und, sizeOf, zeroOf, lenOf, binOp, binInt, binOther, shiftB, shiftOp, intOp, wrapI, strOp, strK, intK, slK, aggK, unOp, doPick, branch, idx, readCells, cellsOf, oneOf, aggB, cel, alloc, doAlloc, newRow, nilCheck, extract, getO, ended, resultOf, oneOrTup, rowK, loopK, moved, fieldAddr, field, part, index, sameSz, equalTop, equal, nilFn, nilPtr, nilSl, boolOf, List.getElem?_cons_succ, List.getElem?_cons_zero, List.append_eq, List.cons_append, List.nil_append, List.append_nil, List.length_cons, List.length_nil, Nat.reduceAdd, Nat.reduceSub, Nat.beq, Option.bind_some, nc0, nc1, Int.cast_ofNat_Int, int_beq, int_bne, str_beq, ↓reduceIte, Int.reduceEq, Int.reduceLT, Int.reduceLE, Int.reduceNe, Int.reduceAdd, Int.reduceSub, Int.reduceMul, Int.reduceNeg, Int.reduceGT, Int.reduceGE, ge_iff_le, gt_iff_lt, not_true_eq_false, not_false_eq_true, decide_not, decide_true, decide_false, Bool.not_true, Bool.not_false, Bool.and_true, Bool.true_and, Bool.and_false, Bool.false_and, Bool.or_true, Bool.true_or, Bool.or_false, Bool.false_or, and_true, true_and, and_self, Nat.zero_add, Nat.add_zero, Int.toNat_zero, Nat.zero_mul, wp_pure, beq_self_eq_true, bne_self_eq_false, reduceCtorEq, q1, q2]
            refine opv_call (f11 (num4 l) (by omega) (by omega) h5 n5) fun v0 h6 n6 hn6 ⟨s6, e6, hbs6, hbel6, hold6⟩ => ?_
            subst e6
            have q5 : encE (num4 l) = 0 := by simp only [encE, q4]
            have q6 : encL (num4 l) = l := by simp only [encL, q4]; exact decB_fm hd
            rw [q6] at hbs6
            have q7 := (fm_all (num4 l) (by omega) (by omega)).1
            rw [decB_fm hd] at q7
            have q8 : tv l = decide (¬ num4 l = 0) := by
              by_cases hz : num4 l = 0
              · rw [decide_eq_false (by simpa using hz)]
                cases ht : tv l with
                | false => rfl
                | true => exact absurd hz (q7.1 ht)
              · rw [decide_eq_true hz]; exact q7.2 hz
            have hb6 := hv.bytes h6
            cases hz : decide (num4 l = 0) <;>
            simp only [core1, cont_block_any, opg_un, u8, tyr, fgr, hkr, execOp, opd, opds, opt, ofValue, ofArr, ofList, ops2, putT, put, nth, forgetL, doCall, callV_func, builtin, one1, two2, some1, foldM2, min2, max2, blr, bCopy, intB, und, sizeOf, zeroOf, lenOf, binOp, binInt, binOther, shiftB, shiftOp, intOp, wrapI, strOp, strK, intK, slK, aggK, unOp, doPick, branch, idx, readCells, cellsOf, oneOf, aggB, cel, alloc, doAlloc, newRow, nilCheck, extract, getO, ended, resultOf, oneOrTup, rowK, loopK, moved, fieldAddr, field, part, index, sameSz, equalTop, equal, nilFn, nilPtr, nilSl, boolOf, List.getElem?_cons_succ, List.getElem?_cons_zero, List.append_eq, List.cons_append, List.nil_append, List.append_nil, List.length_cons, List.length_nil, Nat.reduceAdd, Nat.reduceSub, Nat.beq, Option.bind_some, nc0, nc1, Int.cast_ofNat_Int, int_beq, int_bne, str_beq, ↓reduceIte, Int.reduceEq, Int.reduceLT, Int.reduceLE, Int.reduceNe, Int.reduceAdd, Int.reduceSub, Int.reduceMul, Int.reduceNeg, Int.reduceGT, Int.reduceGE, ge_iff_le, gt_iff_lt, not_true_eq_false, not_false_eq_true, decide_not, decide_true, decide_false, Bool.not_true, Bool.not_false, Bool.and_true, Bool.true_and, Bool.and_false, Bool.false_and, Bool.or_true, Bool.true_or, Bool.or_false, Bool.false_or, and_true, true_and, and_self, Nat.zero_add, Nat.add_zero, Int.toNat_zero, Nat.zero_mul, wp_pure, beq_self_eq_true, bne_self_eq_false, reduceCtorEq, q5, hbs6.str t22 t9 t5, hb6.str t22 t9 t5, eq_self, opv_det (f13 v l h6 n6 hb6 hl2), q8, hz]
      · have hs := decB_big hw2.1 hw2.2 (fun hh => hs2 hh.2)
        have d1 : decN (fmB a) = 0 := by simp only [decN, hs]
        have d2 : decE (fmB a) = 110 := by simp only [decE, hs]
        have hz : ¬ a = 0 := by omega
        simp only [core1, cont_block_any, opg_un, u8, tyr, fgr, hkr, execOp, opd, opds, opt, ofValue, ofArr, ofList, ops2, putT, put, nth, forgetL, doCall, callV_func, builtin, one1, two2, some1, foldM2, min2, max2, blr, bCopy, intB, und, sizeOf, zeroOf, lenOf, binOp, binInt, binOther, shiftB, shiftOp, intOp, wrapI, strOp, strK, intK, slK, aggK, unOp, doPick, branch, idx, readCells, cellsOf, oneOf, aggB, cel, alloc, doAlloc, newRow, nilCheck, extract, getO, ended, resultOf, oneOrTup, rowK, loopK, moved, fieldAddr, field, part, index, sameSz, equalTop, equal, nilFn, nilPtr, nilSl, boolOf, List.getElem?_cons_succ, List.getElem?_cons_zero, List.append_eq, List.cons_append, List.nil_append, List.append_nil, List.length_cons, List.length_nil, Nat.reduceAdd, Nat.reduceSub, Nat.beq, Option.bind_some, nc0, nc1, Int.cast_ofNat_Int, int_beq, int_bne, str_beq, ↓reduceIte, Int.reduceEq, Int.reduceLT, Int.reduceLE, Int.reduceNe, Int.reduceAdd, Int.reduceSub, Int.reduceMul, Int.reduceNeg, Int.reduceGT, Int.reduceGE, ge_iff_le, gt_iff_lt, not_true_eq_false, not_false_eq_true, decide_not, decide_true, decide_false, Bool.not_true, Bool.not_false, Bool.and_true, Bool.true_and, Bool.and_false, Bool.false_and, Bool.or_true, Bool.true_or, Bool.or_false, Bool.false_or, and_true, true_and, and_self, Nat.zero_add, Nat.add_zero, Int.toNat_zero, Nat.zero_mul, wp_pure, beq_self_eq_true, bne_self_eq_false, reduceCtorEq, d1, d2, hs1, hs2, opv_det (f13 s (fmB a) h2 n2 hbs2 hfl), g3, hz, hbs2.bLen t22, k5]
        refine opv_call (f12 v l h2 n2 (hv.bytes h2) (hv.below n2) hl2) fun v0 h5 n5 hn5 ⟨e5, hold5⟩ => ?_
        subst e5
        cases hd : decB l with
        | false =>
          have q1 : decN l = 0 := by simp only [decN, hd]
          have q2 : decE l = 110 := by simp only [decE, hd]
          simp only [core1, cont_block_any, opg_un, u8, tyr, fgr, hkr, execOp, opd, opds, opt, ofValue, ofArr, ofList, ops2, putT, put, nth, forgetL, doCall, callV_func, builtin, one1, two2, some1, foldM2, min2, max2, blr, bCopy, intB, und, sizeOf, zeroOf, lenOf, binOp, binInt, binOther, shiftB, shiftOp, intOp, wrapI, strOp, strK, intK, slK, aggK, unOp, doPick, branch, idx, readCells, cellsOf, oneOf, aggB, cel, alloc, doAlloc, newRow, nilCheck, extract, getO, ended, resultOf, oneOrTup, rowK, loopK, moved, fieldAddr, field, part, index, sameSz, equalTop, equal, nilFn, nilPtr, nilSl, boolOf, List.getElem?_cons_succ, List.getElem?_cons_zero, List.append_eq, List.cons_append, List.nil_append, List.append_nil, List.length_cons, List.length_nil, Nat.reduceAdd, Nat.reduceSub, Nat.beq, Option.bind_some, nc0, nc1, Int.cast_ofNat_Int, int_beq, int_bne, str_beq, ↓reduceIte, Int.reduceEq, Int.reduceLT, Int.reduceLE, Int.reduceNe, Int.reduceAdd, Int.reduceSub, Int.reduceMul, Int.reduceNeg, Int.reduceGT, Int.reduceGE, ge_iff_le, gt_iff_lt, not_true_eq_false, not_false_eq_true, decide_not, decide_true, decide_false, Bool.not_true, Bool.not_false, Bool.and_true, Bool.true_and, Bool.and_false, Bool.false_and, Bool.or_true, Bool.true_or, Bool.or_false, Bool.false_or, and_true, true_and, and_self, Nat.zero_add, Nat.add_zero, Int.toNat_zero, Nat.zero_mul, wp_pure, beq_self_eq_true, bne_self_eq_false, reduceCtorEq, q1, q2]
        | true =>
          have q1 : decN l = num4 l := by simp only [decN, hd]
          have q2 : decE l = 0 := by simp only [decE, hd]
          have q3 := num4_r l
          have q4 : wideB (num4 l) = false := by unfold wideB; rw [decide_eq_false (by omega), decide_eq_false (by omega)]; rfl
          simp only [core1, cont_block_any, opg_un, u8, tyr, fgr, hkr, execOp, opd, opds, opt, ofValue, ofArr, ofList, ops2, putT, put, nth, forgetL, doCall, callV_func, builtin, one1, two2, some1, foldM2, min2, max2, blr, bCopy, intB, und, sizeOf, zeroOf, lenOf, binOp, binInt, binOther, shiftB, shiftOp, intOp, wrapI, strOp, strK, intK, slK, aggK, unOp, doPick, branch, idx, readCells, cellsOf, oneOf, aggB, cel, alloc, doAlloc, newRow, nilCheck, extract, getO, ended, resultOf, oneOrTup, rowK, loopK, moved, fieldAddr, field, part, index, sameSz, equalTop, equal, nilFn, nilPtr, nilSl, boolOf, List.getElem?_cons_succ, List.getElem?_cons_zero, List.append_eq, List.cons_append, List.nil_append, List.append_nil, List.length_cons, List.length_nil, Nat.reduceAdd, Nat.reduceSub, Nat.beq, Option.bind_some, nc0, nc1, Int.cast_ofNat_Int, int_beq, int_bne, str_beq, ↓reduceIte, Int.reduceEq, Int.reduceLT, Int.reduceLE, Int.reduceNe, Int.reduceAdd, Int.reduceSub, Int.reduceMul, Int.reduceNeg, Int.reduceGT, Int.reduceGE, ge_iff_le, gt_iff_lt, not_true_eq_false, not_false_eq_true, decide_not, decide_true, decide_false, Bool.not_true, Bool.not_false, Bool.and_true, Bool.true_and, Bool.and_false, Bool.false_and, Bool.or_true, Bool.true_or, Bool.or_false, Bool.false_or, and_true, true_and, and_self, Nat.zero_add, Nat.add_zero, Int.toNat_zero, Nat.zero_mul, wp_pure, beq_self_eq_true, bne_self_eq_false, reduceCtorEq, q1, q2]
          refine opv_call (f11 (num4 l) (by omega) (by omega) h5 n5) fun v0 h6 n6 hn6 ⟨s6, e6, hbs6, hbel6, hold6⟩ => ?_
          subst e6
          have q5 : encE (num4 l) = 0 := by simp only [encE, q4]
          have q6 : encL (num4 l) = l := by simp only [encL, q4]; exact decB_fm hd
          rw [q6] at hbs6
          have q7 := (fm_all (num4 l) (by omega) (by omega)).1
          rw [decB_fm hd] at q7
          have q8 : tv l = decide (¬ num4 l = 0) := by
            by_cases hz : num4 l = 0
            · rw [decide_eq_false (by simpa using hz)]
              cases ht : tv l with
              | false => rfl
              | true => exact absurd hz (q7.1 ht)
            · rw [decide_eq_true hz]; exact q7.2 hz
          have hb6 := hv.bytes h6
          cases hz : decide (num4 l = 0) <;>
          simp only [core1, cont_block_any, opg_un, u8, tyr, fgr, hkr, execOp, opd, opds, opt, ofValue, ofArr, ofList, ops2, putT, put, nth, forgetL, doCall, callV_func, builtin, one1, two2, some1, foldM2, min2, max2, blr, bCopy, intB, und, sizeOf, zeroOf, lenOf, binOp, binInt, binOther, shiftB, shiftOp, intOp, wrapI, strOp, strK, intK, slK, aggK, unOp, doPick, branch, idx, readCells, cellsOf, oneOf, aggB, cel, alloc, doAlloc, newRow, nilCheck, extract, getO, ended, resultOf, oneOrTup, rowK, loopK, moved, fieldAddr, field, part, index, sameSz, equalTop, equal, nilFn, nilPtr, nilSl, boolOf, List.getElem?_cons_succ, List.getElem?_cons_zero, List.append_eq, List.cons_append, List.nil_append, List.append_nil, List.length_cons, List.length_nil, Nat.reduceAdd, Nat.reduceSub, Nat.beq, Option.bind_some, nc0, nc1, Int.cast_ofNat_Int, int_beq, int_bne, str_beq, ↓reduceIte, Int.reduceEq, Int.reduceLT, Int.reduceLE, Int.reduceNe, Int.reduceAdd, Int.reduceSub, Int.reduceMul, Int.reduceNeg, Int.reduceGT, Int.reduceGE, ge_iff_le, gt_iff_lt, not_true_eq_false, not_false_eq_true, decide_not, decide_true, decide_false, Bool.not_true, Bool.not_false, Bool.and_true, Bool.true_and, Bool.and_false, Bool.false_and, Bool.or_true, Bool.true_or, Bool.or_false, Bool.false_or, and_true, true_and, and_self, Nat.zero_add, Nat.add_zero, Int.toNat_zero, Nat.zero_mul, wp_pure, beq_self_eq_true, bne_self_eq_false, reduceCtorEq, q5, hbs6.str t22 t9 t5, hb6.str t22 t9 t5, eq_self, opv_det (f13 v l h6 n6 hb6 hl2), q8, hz]
    · have hs := decB_big hw2.1 hw2.2 (fun hh => hs1 hh.1)
      have d1 : decN (fmB a) = 0 := by simp only [decN, hs]
      have d2 : decE (fmB a) = 110 := by simp only [decE, hs]
      have hz : ¬ a = 0 := by omega
      simp only [core1, cont_block_any, opg_un, u8, tyr, fgr, hkr, execOp, opd, opds, opt, ofValue, ofArr, ofList, ops2, putT, put, nth, forgetL, doCall, callV_func, builtin, one1, two2, some1, foldM2, min2, max2, blr, bCopy, intB, und, sizeOf, zeroOf, lenOf, binOp, binInt, binOther, shiftB, shiftOp, intOp, wrapI, strOp, strK, intK, slK, aggK, unOp, doPick, branch, idx, readCells, cellsOf, oneOf, aggB, cel, alloc, doAlloc, newRow, nilCheck, extract, getO, ended, resultOf, oneOrTup, rowK, loopK, moved, fieldAddr, field, part, index, sameSz, equalTop, equal, nilFn, nilPtr, nilSl, boolOf, List.getElem?_cons_succ, List.getElem?_cons_zero, List.append_eq, List.cons_append, List.nil_append, List.append_nil, List.length_cons, List.length_nil, Nat.reduceAdd, Nat.reduceSub, Nat.beq, Option.bind_some, nc0, nc1, Int.cast_ofNat_Int, int_beq, int_bne, str_beq, ↓reduceIte, Int.reduceEq, Int.reduceLT, Int.reduceLE, Int.reduceNe, Int.reduceAdd, Int.reduceSub, Int.reduceMul, Int.reduceNeg, Int.reduceGT, Int.reduceGE, ge_iff_le, gt_iff_lt, not_true_eq_false, not_false_eq_true, decide_not, decide_true, decide_false, Bool.not_true, Bool.not_false, Bool.and_true, Bool.true_and, Bool.and_false, Bool.false_and, Bool.or_true, Bool.true_or, Bool.or_false, Bool.false_or, and_true, true_and, and_self, Nat.zero_add, Nat.add_zero, Int.toNat_zero, Nat.zero_mul, wp_pure, beq_self_eq_true, bne_self_eq_false, reduceCtorEq, d1, d2, hs1, opv_det (f13 s (fmB a) h2 n2 hbs2 hfl), g3, hz, hbs2.bLen t22, k5]
      refine opv_call (f12 v l h2 n2 (hv.bytes h2) (hv.below n2) hl2) fun v0 h5 n5 hn5 ⟨e5, hold5⟩ => ?_
      subst e5
      cases hd : decB l with
      | false =>
        have q1 : decN l = 0 := by simp only [decN, hd]
        have q2 : decE l = 110 := by simp only [decE, hd]
        simp only [core1, cont_block_any, opg_un, u8, tyr, fgr, hkr, execOp, opd, opds, opt, ofValue, ofArr, ofList, ops2, putT, put, nth, forgetL, doCall, callV_func, builtin, one1, two2, some1, foldM2, min2, max2, blr, bCopy, intB, und, sizeOf, zeroOf, lenOf, binOp, binInt, binOther, shiftB, shiftOp, intOp, wrapI, strOp, strK, intK, slK, aggK, unOp, doPick, branch, idx, readCells, cellsOf, oneOf, aggB, cel, alloc, doAlloc, newRow, nilCheck, extract, getO, ended, resultOf, oneOrTup, rowK, loopK, moved, fieldAddr, field, part, index, sameSz, equalTop, equal, nilFn, nilPtr, nilSl, boolOf, List.getElem?_cons_succ, List.getElem?_cons_zero, List.append_eq, List.cons_append, List.nil_append, List.append_nil, List.length_cons, List.length_nil, Nat.reduceAdd, Nat.reduceSub, Nat.beq, Option.bind_some, nc0, nc1, Int.cast_ofNat_Int, int_beq, int_bne, str_beq, ↓reduceIte, Int.reduceEq, Int.reduceLT, Int.reduceLE, Int.reduceNe, Int.reduceAdd, Int.reduceSub, Int.reduceMul, Int.reduceNeg, Int.reduceGT, Int.reduceGE, ge_iff_le, gt_iff_lt, not_true_eq_false, not_false_eq_true, decide_not, decide_true, decide_false, Bool.not_true, Bool.not_false, Bool.and_true, Bool.true_and, Bool.and_false, Bool.false_and, Bool.or_true, Bool.true_or, Bool.or_false, Bool.false_or, and_true, true_and, and_self, Nat.zero_add, Nat.add_zero, Int.toNat_zero, Nat.zero_mul, wp_pure, beq_self_eq_true, bne_self_eq_false, reduceCtorEq, q1, q2]
      | true =>
        have q1 : decN l = num4 l := by simp only [decN, hd]
        have q2 : decE l = 0 := by simp only [decE, hd]
        have q3 := num4_r l
        have q4 : wideB (num4 l) = false := by unfold wideB; rw [decide_eq_false (by omega), decide_eq_false (by omega)]; rfl
        simp only [core1, cont_block_any, opg_un, u8, tyr, fgr, hkr, execOp, opd, opds, opt, ofValue, ofArr, ofList, ops2, putT, put, nth, forgetL, doCall, callV_func, builtin, one1, two2, some1, foldM2, min2, max2, blr, bCopy, intB, und, sizeOf, zeroOf, lenOf, binOp, binInt, binOther, shiftB, shiftOp, intOp, wrapI, strOp, strK, intK, slK, aggK, unOp, doPick, branch, idx, readCells, cellsOf, oneOf, aggB, cel, alloc, doAlloc, newRow, nilCheck, extract, getO, ended, resultOf, oneOrTup, rowK, loopK, moved, fieldAddr, field, part, index, sameSz, equalTop, equal, nilFn, nilPtr, nilSl, boolOf, List.getElem?_cons_succ, List.getElem?_cons_zero, List.append_eq, List.cons_append, List.nil_append, List.append_nil, List.length_cons, List.length_nil, Nat.reduceAdd, Nat.reduceSub, Nat.beq, Option.bind_some, nc0, nc1, Int.cast_ofNat_Int, int_beq, int_bne, str_beq, ↓reduceIte, Int.reduceEq, Int.reduceLT, Int.reduceLE, Int.reduceNe, Int.reduceAdd, Int.reduceSub, Int.reduceMul, Int.reduceNeg, Int.reduceGT, Int.reduceGE, ge_iff_le, gt_iff_lt, not_true_eq_false, not_false_eq_true, decide_not, decide_true, decide_false, Bool.not_true, Bool.not_false, Bool.and_true, Bool.true_and, Bool.and_false, Bool.false_and, Bool.or_true, Bool.true_or, Bool.or_false, Bool.false_or, and_true, true_and, and_self, Nat.zero_add, Nat.add_zero, Int.toNat_zero, Nat.zero_mul, wp_pure, beq_self_eq_true, bne_self_eq_false, reduceCtorEq, q1, q2]
        refine opv_call (f11 (num4 l) (by omega) (by omega) h5 n5) fun v0 h6 n6 hn6 ⟨s6, e6, hbs6, hbel6, hold6⟩ => ?_
        subst e6
        have q5 : encE (num4 l) = 0 := by simp only [encE, q4]
        have q6 : encL (num4 l) = l := by simp only [encL, q4]; exact decB_fm hd
        rw [q6] at hbs6
        have q7 := (fm_all (num4 l) (by omega) (by omega)).1
        rw [decB_fm hd] at q7
        have q8 : tv l = decide (¬ num4 l = 0) := by
          by_cases hz : num4 l = 0
          · rw [decide_eq_false (by simpa using hz)]
            cases ht : tv l with
            | false => rfl
            | true => exact absurd hz (q7.1 ht)
          · rw [decide_eq_true hz]; exact q7.2 hz
        have hb6 := hv.bytes h6
        cases hz : decide (num4 l = 0) <;>
        simp only [core1, cont_block_any, opg_un, u8, tyr, fgr, hkr, execOp, opd, opds, opt, ofValue, ofArr, ofList, ops2, putT, put, nth, forgetL, doCall, callV_func, builtin, one1, two2, some1, foldM2, min2, max2, blr, bCopy, intB, und, sizeOf, zeroOf, lenOf, binOp, binInt, binOther, shiftB, shiftOp, intOp, wrapI, strOp, strK, intK, slK, aggK, unOp, doPick, branch, idx, readCells, cellsOf, oneOf, aggB, cel, alloc, doAlloc, newRow, nilCheck, extract, getO, ended, resultOf, oneOrTup, rowK, loopK, moved, fieldAddr, field, part, index, sameSz, equalTop, equal, nilFn, nilPtr, nilSl, boolOf, List.getElem?_cons_succ, List.getElem?_cons_zero, List.append_eq, List.cons_append, List.nil_append, List.append_nil, List.length_cons, List.length_nil, Nat.reduceAdd, Nat.reduceSub, Nat.beq, Option.bind_some, nc0, nc1, Int.cast_ofNat_Int, int_beq, int_bne, str_beq, ↓reduceIte, Int.reduceEq, Int.reduceLT, Int.reduceLE, Int.reduceNe, Int.reduceAdd, Int.reduceSub, Int.reduceMul, Int.reduceNeg, Int.reduceGT, Int.reduceGE, ge_iff_le, gt_iff_lt, not_true_eq_false, not_false_eq_true, decide_not, decide_true, decide_false, Bool.not_true, Bool.not_false, Bool.and_true, Bool.true_and, Bool.and_false, Bool.false_and, Bool.or_true, Bool.true_or, Bool.or_false, Bool.false_or, and_true, true_and, and_self, Nat.zero_add, Nat.add_zero, Int.toNat_zero, Nat.zero_mul, wp_pure, beq_self_eq_true, bne_self_eq_false, reduceCtorEq, q5, hbs6.str t22 t9 t5, hb6.str t22 t9 t5, eq_self, opv_det (f13 v l h6 n6 hb6 hl2), q8, hz]
end Go.Am.Ytfomdaajpembmaa
