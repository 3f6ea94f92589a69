/- What an operation makes of a script's numbers has bytes. -/
-- env NumEnv
import Derived.Test.YtfomdaajpembmaaNumJ
import Derived.Test.YtfomdaajpembmaaNumC
set_option linter.unusedSimpArgs false
set_option linter.unusedVariables false
set_option linter.defProp false
set_option maxRecDepth 10000
namespace Go.Am.Ytfomdaajpembmaa
open Go Go.Am Go.Proofs
/-- Does it say whether? -/
def says (c : Int) : Bool := decide (c = 145) || decide (c = 146) || (decide (154 ≤ c) && decide (c ≤ 162))
theorem oneV_r {c x : Int} (hx : -2147483647 ≤ x ∧ x ≤ 2147483647) : -4294967296 ≤ (oneV c x).1 ∧ (oneV c x).1 ≤ 4294967296 ∧ (ariV c = 1 → says c = true → (oneV c x).1 = 0 ∨ (oneV c x).1 = 1) ∧ (ariV c = 1 → (oneV c x).2 = 0) ∧ (¬ ariV c = 1 → oneV c x = (0, 2)) := by
  have hm := may_of hx
  rw [ari1]
  unfold oneV
  by_cases hc : c = 139 ∨ c = 140 ∨ c = 143 ∨ c = 144 ∨ c = 145 ∨ c = 146
  · rw [if_pos hc, if_pos hm]
    refine ⟨?_, ?_, fun _ hs => ?_, fun _ => rfl, fun h => absurd hc h⟩
    · have h0 := b2i_r (decide (x = 0)); have h1 := b2i_r (decide (¬ x = 0))
      dsimp only; repeat' split
      all_goals omega
    · have h0 := b2i_r (decide (x = 0)); have h1 := b2i_r (decide (¬ x = 0))
      dsimp only; repeat' split
      all_goals omega
    · unfold says at hs
      rcases hc with rfl | rfl | rfl | rfl | rfl | rfl
      · exact absurd hs (by decide)
      · exact absurd hs (by decide)
      · exact absurd hs (by decide)
      · exact absurd hs (by decide)
      · cases hb : decide (x = 0) <;> simp [b2i, hb]
      · cases hb : decide (¬ x = 0) <;> simp [b2i, hb]
  · rw [if_neg hc]
    exact ⟨by decide, by decide, fun h => absurd h hc, fun h => absurd h hc, fun _ => rfl⟩
theorem b2i_01 (b : Bool) : b2i b = 0 ∨ b2i b = 1 := by cases b <;> simp [b2i]
theorem twoV_r {c x y : Int} (hx : -2147483647 ≤ x ∧ x ≤ 2147483647) (hy : -2147483647 ≤ y ∧ y ≤ 2147483647) (hc : isTwo c) : -4294967296 ≤ twoV c x y ∧ twoV c x y ≤ 4294967296 ∧ (says c = true → twoV c x y = 0 ∨ twoV c x y = 1) := by
  have br : ∀ b, -4294967296 ≤ b2i b ∧ b2i b ≤ 4294967296 := fun b => by have := b2i_r b; omega
  unfold isTwo at hc
  unfold twoV
  rcases hc with rfl | rfl | rfl | rfl | rfl | rfl | rfl | rfl | rfl | rfl | rfl | rfl | rfl
  · refine ⟨by simp; omega, by simp; omega, fun hs => absurd hs (by decide)⟩
  · refine ⟨by simp; omega, by simp; omega, fun hs => absurd hs (by decide)⟩
  · exact ⟨(br _).1, (br _).2, fun _ => b2i_01 _⟩
  · exact ⟨(br _).1, (br _).2, fun _ => b2i_01 _⟩
  · exact ⟨(br _).1, (br _).2, fun _ => b2i_01 _⟩
  · exact ⟨(br _).1, (br _).2, fun _ => b2i_01 _⟩
  · exact ⟨(br _).1, (br _).2, fun _ => b2i_01 _⟩
  · exact ⟨(br _).1, (br _).2, fun _ => b2i_01 _⟩
  · exact ⟨(br _).1, (br _).2, fun _ => b2i_01 _⟩
  · exact ⟨(br _).1, (br _).2, fun _ => b2i_01 _⟩
  · exact ⟨(br _).1, (br _).2, fun _ => b2i_01 _⟩
  · refine ⟨?_, ?_, fun hs => absurd hs (by decide)⟩ <;> simp <;> split <;> omega
  · refine ⟨?_, ?_, fun hs => absurd hs (by decide)⟩ <;> simp <;> split <;> omega
set_option maxHeartbeats 4000000 in
theorem law8 (c a b : Int) (w0 : (Lit.int .u8 c).wf = true) (w1 : (Lit.int .i64 a).wf = true) (w2 : (Lit.int .i64 b).wf = true) : Wp (callI env (evalW env) 8 [.int .u8 c, .int .i64 a, .int .i64 b]) (fun _ => none) 0 fun v _ _ => v = .bool true := by
  refine wp_callI ff8 fi8 ?_
  simp only [fu8, Try.f8, Option.getD_some, List.replicate, core1, cont_block_any, opg_un, u8, tyr, fgr, hkr, execOp, opd, opds, opt, ofValue, ofArr, ofList, ops2, putT, put, nth, forgetL, doCall, callV_func, builtin, one1, two2, some1, foldM2, min2, max2, blr, bCopy, intB, und, sizeOf, zeroOf, lenOf, binOp, binInt, binOther, shiftB, shiftOp, intOp, wrapI, strOp, strK, intK, slK, aggK, unOp, doPick, branch, idx, readCells, cellsOf, oneOf, aggB, cel, alloc, doAlloc, newRow, nilCheck, extract, getO, ended, resultOf, oneOrTup, rowK, loopK, moved, fieldAddr, field, part, index, sameSz, equalTop, equal, nilFn, nilPtr, nilSl, boolOf, List.getElem?_cons_succ, List.getElem?_cons_zero, List.append_eq, List.cons_append, List.nil_append, List.append_nil, List.length_cons, List.length_nil, Nat.reduceAdd, Nat.reduceSub, Nat.beq, Option.bind_some, nc0, nc1, Int.cast_ofNat_Int, int_beq, int_bne, str_beq, ↓reduceIte, Int.reduceEq, Int.reduceLT, Int.reduceLE, Int.reduceNe, Int.reduceAdd, Int.reduceSub, Int.reduceMul, Int.reduceNeg, Int.reduceGT, Int.reduceGE, ge_iff_le, gt_iff_lt, not_true_eq_false, not_false_eq_true, decide_not, decide_true, decide_false, Bool.not_true, Bool.not_false, Bool.and_true, Bool.true_and, Bool.and_false, Bool.false_and, Bool.or_true, Bool.true_or, Bool.or_false, Bool.false_or, and_true, true_and, and_self, Nat.zero_add, Nat.add_zero, Int.toNat_zero, Nat.zero_mul, wp_pure, beq_self_eq_true, bne_self_eq_false, reduceCtorEq]
  refine opv_callf Free.none alive_wp fun v0 h n hn0 hf h0 => ?_
  subst h0
  have hx := tmod_b a
  have hy := tmod_b b
  obtain ⟨x, rx⟩ : ∃ x, a.tmod 2147483648 = x := ⟨_, rfl⟩
  obtain ⟨y, ry⟩ : ∃ y, b.tmod 2147483648 = y := ⟨_, rfl⟩
  rw [rx] at hx
  rw [ry] at hy
  have m1 := may_of hx
  have m2 := may_of hy
  have o := oneV_r (c := c) hx
  by_cases c2 : isTwo c
  · have t1 := twoV_r hx hy c2
    have a2 : ariV c = 2 := by have := ari2 c; rw [this]; exact c2
    have t2 : twoR c x y = (twoV c x y, 0) := by simp [twoR, c2, m1, m2]
    have a1 : ¬ (2 : Int) = 1 := by decide
    simp only [core1, cont_block_any, opg_un, u8, tyr, fgr, hkr, execOp, opd, opds, opt, ofValue, ofArr, ofList, ops2, putT, put, nth, forgetL, doCall, callV_func, builtin, one1, two2, some1, foldM2, min2, max2, blr, bCopy, intB, und, sizeOf, zeroOf, lenOf, binOp, binInt, binOther, shiftB, shiftOp, intOp, wrapI, strOp, strK, intK, slK, aggK, unOp, doPick, branch, idx, readCells, cellsOf, oneOf, aggB, cel, alloc, doAlloc, newRow, nilCheck, extract, getO, ended, resultOf, oneOrTup, rowK, loopK, moved, fieldAddr, field, part, index, sameSz, equalTop, equal, nilFn, nilPtr, nilSl, boolOf, List.getElem?_cons_succ, List.getElem?_cons_zero, List.append_eq, List.cons_append, List.nil_append, List.append_nil, List.length_cons, List.length_nil, Nat.reduceAdd, Nat.reduceSub, Nat.beq, Option.bind_some, nc0, nc1, Int.cast_ofNat_Int, int_beq, int_bne, str_beq, ↓reduceIte, Int.reduceEq, Int.reduceLT, Int.reduceLE, Int.reduceNe, Int.reduceAdd, Int.reduceSub, Int.reduceMul, Int.reduceNeg, Int.reduceGT, Int.reduceGE, ge_iff_le, gt_iff_lt, not_true_eq_false, not_false_eq_true, decide_not, decide_true, decide_false, Bool.not_true, Bool.not_false, Bool.and_true, Bool.true_and, Bool.and_false, Bool.false_and, Bool.or_true, Bool.true_or, Bool.or_false, Bool.false_or, and_true, true_and, and_self, Nat.zero_add, Nat.add_zero, Int.toNat_zero, Nat.zero_mul, wp_pure, beq_self_eq_true, bne_self_eq_false, reduceCtorEq, c19, c21, c25, rx, ry, a2, t2]
    refine opv_callf hf (f11 (twoV c x y) (by omega) (by omega) h n) fun v0 h1 n1 hn1 hf1 ⟨s, e1, hs, hsb, hold1⟩ => ?_
    subst e1
    have good := fm_all (twoV c x y) (by omega) (by omega)
    have q0 : wideB (twoV c x y) = false := by unfold wideB; rw [decide_eq_false (by omega), decide_eq_false (by omega)]; rfl
    have q1 : encE (twoV c x y) = 0 := by simp only [encE, q0]
    have q2 : encL (twoV c x y) = fmB (twoV c x y) := by simp only [encL, q0]
    rw [q2] at hs
    have hfl : (fmB (twoV c x y)).length < 1000000 := by have := good.2.1; omega
    have k5 : ¬ (5 < (((fmB (twoV c x y)).length : Nat) : Int)) := by have := good.2.1; omega
    have g3 : tv (fmB (twoV c x y)) = decide (¬ twoV c x y = 0) := by
      by_cases hz : twoV c x y = 0
      · rw [decide_eq_false (by simpa using hz)]
        cases ht : tv (fmB (twoV c x y)) with
        | false => rfl
        | true => exact absurd hz (good.1.1 ht)
      · rw [decide_eq_true hz]; exact good.1.2 hz
    have tvv : ∀ b : Bool, (b == b) = true := fun b => by cases b <;> rfl
    have tvn : ∀ b : Bool, (b != b) = false := fun b => by cases b <;> rfl
    cases d1 : decide (c = 145) <;> cases d2 : decide (c = 146) <;> cases d3 : decide (154 ≤ c) <;> cases d4 : decide (c ≤ 162)
    all_goals
      have hsay : says c = (decide (c = 145) || decide (c = 146) || (decide (154 ≤ c) && decide (c ≤ 162))) := rfl
      rw [d1, d2, d3, d4] at hsay
      simp only [core1, cont_block_any, opg_un, u8, tyr, fgr, hkr, execOp, opd, opds, opt, ofValue, ofArr, ofList, ops2, putT, put, nth, forgetL, doCall, callV_func, builtin, one1, two2, some1, foldM2, min2, max2, blr, bCopy, intB, und, sizeOf, zeroOf, lenOf, binOp, binInt, binOther, shiftB, shiftOp, intOp, wrapI, strOp, strK, intK, slK, aggK, unOp, doPick, branch, idx, readCells, cellsOf, oneOf, aggB, cel, alloc, doAlloc, newRow, nilCheck, extract, getO, ended, resultOf, oneOrTup, rowK, loopK, moved, fieldAddr, field, part, index, sameSz, equalTop, equal, nilFn, nilPtr, nilSl, boolOf, List.getElem?_cons_succ, List.getElem?_cons_zero, List.append_eq, List.cons_append, List.nil_append, List.append_nil, List.length_cons, List.length_nil, Nat.reduceAdd, Nat.reduceSub, Nat.beq, Option.bind_some, nc0, nc1, Int.cast_ofNat_Int, int_beq, int_bne, str_beq, ↓reduceIte, Int.reduceEq, Int.reduceLT, Int.reduceLE, Int.reduceNe, Int.reduceAdd, Int.reduceSub, Int.reduceMul, Int.reduceNeg, Int.reduceGT, Int.reduceGE, ge_iff_le, gt_iff_lt, not_true_eq_false, not_false_eq_true, decide_not, decide_true, decide_false, Bool.not_true, Bool.not_false, Bool.and_true, Bool.true_and, Bool.and_false, Bool.false_and, Bool.or_true, Bool.true_or, Bool.or_false, Bool.false_or, and_true, true_and, and_self, Nat.zero_add, Nat.add_zero, Int.toNat_zero, Nat.zero_mul, wp_pure, beq_self_eq_true, bne_self_eq_false, reduceCtorEq, q1, k5, hs.bLen t22, opv_det (f13 s _ h1 n1 hs hfl), g3, tvv, tvn, d1, d2, d3, d4]
      refine run_draw.2 ⟨rfl, ?_⟩
      first
      | (simp only [fe_nil, fe_cons, fe_guard, fego_some, feg_bool, feg_tt, feg_ff, feg_tf, feg_ft, feg_un, fev_ask, fev_ob, fev_pure, fev_fail, core1, cont_block_any, opg_un, u8, tyr, fgr, hkr, execOp, opd, opds, opt, ofValue, ofArr, ofList, ops2, putT, put, nth, forgetL, doCall, callV_func, builtin, one1, two2, some1, foldM2, min2, max2, blr, bCopy, intB, und, sizeOf, zeroOf, lenOf, binOp, binInt, binOther, shiftB, shiftOp, intOp, wrapI, strOp, strK, intK, slK, aggK, unOp, doPick, branch, idx, readCells, cellsOf, oneOf, aggB, cel, alloc, doAlloc, newRow, nilCheck, extract, getO, ended, resultOf, oneOrTup, rowK, loopK, moved, fieldAddr, field, part, index, sameSz, equalTop, equal, nilFn, nilPtr, nilSl, boolOf, List.getElem?_cons_succ, List.getElem?_cons_zero, List.append_eq, List.cons_append, List.nil_append, List.append_nil, List.length_cons, List.length_nil, Nat.reduceAdd, Nat.reduceSub, Nat.beq, Option.bind_some, nc0, nc1, Int.cast_ofNat_Int, int_beq, int_bne, str_beq, ↓reduceIte, Int.reduceEq, Int.reduceLT, Int.reduceLE, Int.reduceNe, Int.reduceAdd, Int.reduceSub, Int.reduceMul, Int.reduceNeg, Int.reduceGT, Int.reduceGE, ge_iff_le, gt_iff_lt, not_true_eq_false, not_false_eq_true, decide_not, decide_true, decide_false, Bool.not_true, Bool.not_false, Bool.and_true, Bool.true_and, Bool.and_false, Bool.false_and, Bool.or_true, Bool.true_or, Bool.or_false, Bool.false_or, and_true, true_and, and_self, Nat.zero_add, Nat.add_zero, Int.toNat_zero, Nat.zero_mul, wp_pure, beq_self_eq_true, bne_self_eq_false, reduceCtorEq]
         refine Eq.trans (congrArg (fun b => fine b _) (show _ = [0, 1, 3, 7, 15, 31, 63, 127, 255, 511, 1023, 2047, 4095, 8191, 4095, 20479, 53247, 118783, 262143, 524287, 1048575, 2097151, 4194303] from rfl)) ?_
         simp (maxSteps := 10000000) only [fine, List.all_cons, List.all_nil, clash_pl, clash_pr, Bool.not_false, Bool.true_or, Bool.and_true, Bool.true_and]
         done)
      | (have h01 := t1.2.2 (by rw [hsay]; rfl)
         have e3 : twoV c x y = b2i (decide (twoV c x y = 1)) := by
           rcases h01 with e | e <;> rw [e] <;> rfl
         cases z0 : decide (twoV c x y = 0) <;> cases z1 : decide (twoV c x y = 1)
         · simp only [decide_eq_false_iff_not] at z0 z1; omega
         all_goals
           simp only [fe_nil, fe_cons, fe_guard, fego_some, feg_bool, feg_tt, feg_ff, feg_tf, feg_ft, feg_un, fev_ask, fev_ob, fev_pure, fev_fail, core1, cont_block_any, opg_un, u8, tyr, fgr, hkr, execOp, opd, opds, opt, ofValue, ofArr, ofList, ops2, putT, put, nth, forgetL, doCall, callV_func, builtin, one1, two2, some1, foldM2, min2, max2, blr, bCopy, intB, und, sizeOf, zeroOf, lenOf, binOp, binInt, binOther, shiftB, shiftOp, intOp, wrapI, strOp, strK, intK, slK, aggK, unOp, doPick, branch, idx, readCells, cellsOf, oneOf, aggB, cel, alloc, doAlloc, newRow, nilCheck, extract, getO, ended, resultOf, oneOrTup, rowK, loopK, moved, fieldAddr, field, part, index, sameSz, equalTop, equal, nilFn, nilPtr, nilSl, boolOf, List.getElem?_cons_succ, List.getElem?_cons_zero, List.append_eq, List.cons_append, List.nil_append, List.append_nil, List.length_cons, List.length_nil, Nat.reduceAdd, Nat.reduceSub, Nat.beq, Option.bind_some, nc0, nc1, Int.cast_ofNat_Int, int_beq, int_bne, str_beq, ↓reduceIte, Int.reduceEq, Int.reduceLT, Int.reduceLE, Int.reduceNe, Int.reduceAdd, Int.reduceSub, Int.reduceMul, Int.reduceNeg, Int.reduceGT, Int.reduceGE, ge_iff_le, gt_iff_lt, not_true_eq_false, not_false_eq_true, decide_not, decide_true, decide_false, Bool.not_true, Bool.not_false, Bool.and_true, Bool.true_and, Bool.and_false, Bool.false_and, Bool.or_true, Bool.true_or, Bool.or_false, Bool.false_or, and_true, true_and, and_self, Nat.zero_add, Nat.add_zero, Int.toNat_zero, Nat.zero_mul, wp_pure, beq_self_eq_true, bne_self_eq_false, reduceCtorEq, z0, z1]
           rw [fev_rd (hs.str_rd t22 t9 t5)]
           simp only [fe_nil, fe_cons, fe_guard, fego_some, feg_bool, feg_tt, feg_ff, feg_tf, feg_ft, feg_un, fev_ask, fev_ob, fev_pure, fev_fail, core1, cont_block_any, opg_un, u8, tyr, fgr, hkr, execOp, opd, opds, opt, ofValue, ofArr, ofList, ops2, putT, put, nth, forgetL, doCall, callV_func, builtin, one1, two2, some1, foldM2, min2, max2, blr, bCopy, intB, und, sizeOf, zeroOf, lenOf, binOp, binInt, binOther, shiftB, shiftOp, intOp, wrapI, strOp, strK, intK, slK, aggK, unOp, doPick, branch, idx, readCells, cellsOf, oneOf, aggB, cel, alloc, doAlloc, newRow, nilCheck, extract, getO, ended, resultOf, oneOrTup, rowK, loopK, moved, fieldAddr, field, part, index, sameSz, equalTop, equal, nilFn, nilPtr, nilSl, boolOf, List.getElem?_cons_succ, List.getElem?_cons_zero, List.append_eq, List.cons_append, List.nil_append, List.append_nil, List.length_cons, List.length_nil, Nat.reduceAdd, Nat.reduceSub, Nat.beq, Option.bind_some, nc0, nc1, Int.cast_ofNat_Int, int_beq, int_bne, str_beq, ↓reduceIte, Int.reduceEq, Int.reduceLT, Int.reduceLE, Int.reduceNe, Int.reduceAdd, Int.reduceSub, Int.reduceMul, Int.reduceNeg, Int.reduceGT, Int.reduceGE, ge_iff_le, gt_iff_lt, not_true_eq_false, not_false_eq_true, decide_not, decide_true, decide_false, Bool.not_true, Bool.not_false, Bool.and_true, Bool.true_and, Bool.and_false, Bool.false_and, Bool.or_true, Bool.true_or, Bool.or_false, Bool.false_or, and_true, true_and, and_self, Nat.zero_add, Nat.add_zero, Int.toNat_zero, Nat.zero_mul, wp_pure, beq_self_eq_true, bne_self_eq_false, reduceCtorEq, z0, z1]
           refine fev_free hf1 (f17 _ _ _) (f17 _ _ _) fun p h2 n2 hn2 hf2 ⟨hp, hpb, hold2⟩ => ?_
           rw [← z1, ← e3] at hp
           simp only [fe_nil, fe_cons, fe_guard, fego_some, feg_bool, feg_tt, feg_ff, feg_tf, feg_ft, feg_un, fev_ask, fev_ob, fev_pure, fev_fail, core1, cont_block_any, opg_un, u8, tyr, fgr, hkr, execOp, opd, opds, opt, ofValue, ofArr, ofList, ops2, putT, put, nth, forgetL, doCall, callV_func, builtin, one1, two2, some1, foldM2, min2, max2, blr, bCopy, intB, und, sizeOf, zeroOf, lenOf, binOp, binInt, binOther, shiftB, shiftOp, intOp, wrapI, strOp, strK, intK, slK, aggK, unOp, doPick, branch, idx, readCells, cellsOf, oneOf, aggB, cel, alloc, doAlloc, newRow, nilCheck, extract, getO, ended, resultOf, oneOrTup, rowK, loopK, moved, fieldAddr, field, part, index, sameSz, equalTop, equal, nilFn, nilPtr, nilSl, boolOf, List.getElem?_cons_succ, List.getElem?_cons_zero, List.append_eq, List.cons_append, List.nil_append, List.append_nil, List.length_cons, List.length_nil, Nat.reduceAdd, Nat.reduceSub, Nat.beq, Option.bind_some, nc0, nc1, Int.cast_ofNat_Int, int_beq, int_bne, str_beq, ↓reduceIte, Int.reduceEq, Int.reduceLT, Int.reduceLE, Int.reduceNe, Int.reduceAdd, Int.reduceSub, Int.reduceMul, Int.reduceNeg, Int.reduceGT, Int.reduceGE, ge_iff_le, gt_iff_lt, not_true_eq_false, not_false_eq_true, decide_not, decide_true, decide_false, Bool.not_true, Bool.not_false, Bool.and_true, Bool.true_and, Bool.and_false, Bool.false_and, Bool.or_true, Bool.true_or, Bool.or_false, Bool.false_or, and_true, true_and, and_self, Nat.zero_add, Nat.add_zero, Int.toNat_zero, Nat.zero_mul, wp_pure, beq_self_eq_true, bne_self_eq_false, reduceCtorEq, z0, z1]
           rw [fev_rd (hp.str_rd t22 t9 t5)]
           simp only [fe_nil, fe_cons, fe_guard, fego_some, feg_bool, feg_tt, feg_ff, feg_tf, feg_ft, feg_un, fev_ask, fev_ob, fev_pure, fev_fail, core1, cont_block_any, opg_un, u8, tyr, fgr, hkr, execOp, opd, opds, opt, ofValue, ofArr, ofList, ops2, putT, put, nth, forgetL, doCall, callV_func, builtin, one1, two2, some1, foldM2, min2, max2, blr, bCopy, intB, und, sizeOf, zeroOf, lenOf, binOp, binInt, binOther, shiftB, shiftOp, intOp, wrapI, strOp, strK, intK, slK, aggK, unOp, doPick, branch, idx, readCells, cellsOf, oneOf, aggB, cel, alloc, doAlloc, newRow, nilCheck, extract, getO, ended, resultOf, oneOrTup, rowK, loopK, moved, fieldAddr, field, part, index, sameSz, equalTop, equal, nilFn, nilPtr, nilSl, boolOf, List.getElem?_cons_succ, List.getElem?_cons_zero, List.append_eq, List.cons_append, List.nil_append, List.append_nil, List.length_cons, List.length_nil, Nat.reduceAdd, Nat.reduceSub, Nat.beq, Option.bind_some, nc0, nc1, Int.cast_ofNat_Int, int_beq, int_bne, str_beq, ↓reduceIte, Int.reduceEq, Int.reduceLT, Int.reduceLE, Int.reduceNe, Int.reduceAdd, Int.reduceSub, Int.reduceMul, Int.reduceNeg, Int.reduceGT, Int.reduceGE, ge_iff_le, gt_iff_lt, not_true_eq_false, not_false_eq_true, decide_not, decide_true, decide_false, Bool.not_true, Bool.not_false, Bool.and_true, Bool.true_and, Bool.and_false, Bool.false_and, Bool.or_true, Bool.true_or, Bool.or_false, Bool.false_or, and_true, true_and, and_self, Nat.zero_add, Nat.add_zero, Int.toNat_zero, Nat.zero_mul, wp_pure, beq_self_eq_true, bne_self_eq_false, reduceCtorEq, z0, z1, eq_self]
           refine Eq.trans (congrArg (fun b => fine b _) (show _ = [0, 1, 3, 7, 15, 31, 63, 127, 255, 511, 1023, 2047, 4095, 8191, 4095, 20479, 53247, 118783, 262143, 524287, 1048575, 2097151, 4194303] from rfl)) ?_
           have hs9 : ∀ id, id ∈ (ownId s).toList → id < n1 := below_id hsb
           simp (maxSteps := 10000000) only [fine, List.all_cons, List.all_nil, clash_pl, clash_pr, clash_rr, clash_nn, clash_rn _ _ _ _ _ _ hs9, Bool.not_false, Bool.true_or, Bool.and_true, Bool.true_and, List.getD_cons_zero, List.getD_cons_succ, Nat.testBit, Nat.reduceShiftRight, Nat.reduceAnd, Nat.reduceBNe, bne_self_eq_false, Bool.or_true])
  · have a2 : ¬ ariV c = 2 := by have := ari2 c; rw [this]; exact c2
    by_cases c1 : ariV c = 1
    · have o2 := o.2.2.2.1 c1
      simp only [core1, cont_block_any, opg_un, u8, tyr, fgr, hkr, execOp, opd, opds, opt, ofValue, ofArr, ofList, ops2, putT, put, nth, forgetL, doCall, callV_func, builtin, one1, two2, some1, foldM2, min2, max2, blr, bCopy, intB, und, sizeOf, zeroOf, lenOf, binOp, binInt, binOther, shiftB, shiftOp, intOp, wrapI, strOp, strK, intK, slK, aggK, unOp, doPick, branch, idx, readCells, cellsOf, oneOf, aggB, cel, alloc, doAlloc, newRow, nilCheck, extract, getO, ended, resultOf, oneOrTup, rowK, loopK, moved, fieldAddr, field, part, index, sameSz, equalTop, equal, nilFn, nilPtr, nilSl, boolOf, List.getElem?_cons_succ, List.getElem?_cons_zero, List.append_eq, List.cons_append, List.nil_append, List.append_nil, List.length_cons, List.length_nil, Nat.reduceAdd, Nat.reduceSub, Nat.beq, Option.bind_some, nc0, nc1, Int.cast_ofNat_Int, int_beq, int_bne, str_beq, ↓reduceIte, Int.reduceEq, Int.reduceLT, Int.reduceLE, Int.reduceNe, Int.reduceAdd, Int.reduceSub, Int.reduceMul, Int.reduceNeg, Int.reduceGT, Int.reduceGE, ge_iff_le, gt_iff_lt, not_true_eq_false, not_false_eq_true, decide_not, decide_true, decide_false, Bool.not_true, Bool.not_false, Bool.and_true, Bool.true_and, Bool.and_false, Bool.false_and, Bool.or_true, Bool.true_or, Bool.or_false, Bool.false_or, and_true, true_and, and_self, Nat.zero_add, Nat.add_zero, Int.toNat_zero, Nat.zero_mul, wp_pure, beq_self_eq_true, bne_self_eq_false, reduceCtorEq, c19, c21, c25, rx, ry, c1, o2]
      refine opv_callf hf (f11 ((oneV c x).1) (by omega) (by omega) h n) fun v0 h1 n1 hn1 hf1 ⟨s, e1, hs, hsb, hold1⟩ => ?_
      subst e1
      have good := fm_all ((oneV c x).1) (by omega) (by omega)
      have q0 : wideB ((oneV c x).1) = false := by unfold wideB; rw [decide_eq_false (by omega), decide_eq_false (by omega)]; rfl
      have q1 : encE ((oneV c x).1) = 0 := by simp only [encE, q0]
      have q2 : encL ((oneV c x).1) = fmB ((oneV c x).1) := by simp only [encL, q0]
      rw [q2] at hs
      have hfl : (fmB ((oneV c x).1)).length < 1000000 := by have := good.2.1; omega
      have k5 : ¬ (5 < (((fmB ((oneV c x).1)).length : Nat) : Int)) := by have := good.2.1; omega
      have g3 : tv (fmB ((oneV c x).1)) = decide (¬ (oneV c x).1 = 0) := by
        by_cases hz : (oneV c x).1 = 0
        · rw [decide_eq_false (by simpa using hz)]
          cases ht : tv (fmB ((oneV c x).1)) with
          | false => rfl
          | true => exact absurd hz (good.1.1 ht)
        · rw [decide_eq_true hz]; exact good.1.2 hz
      have tvv : ∀ b : Bool, (b == b) = true := fun b => by cases b <;> rfl
      have tvn : ∀ b : Bool, (b != b) = false := fun b => by cases b <;> rfl
      cases d1 : decide (c = 145) <;> cases d2 : decide (c = 146) <;> cases d3 : decide (154 ≤ c) <;> cases d4 : decide (c ≤ 162)
      all_goals
        have hsay : says c = (decide (c = 145) || decide (c = 146) || (decide (154 ≤ c) && decide (c ≤ 162))) := rfl
        rw [d1, d2, d3, d4] at hsay
        simp only [core1, cont_block_any, opg_un, u8, tyr, fgr, hkr, execOp, opd, opds, opt, ofValue, ofArr, ofList, ops2, putT, put, nth, forgetL, doCall, callV_func, builtin, one1, two2, some1, foldM2, min2, max2, blr, bCopy, intB, und, sizeOf, zeroOf, lenOf, binOp, binInt, binOther, shiftB, shiftOp, intOp, wrapI, strOp, strK, intK, slK, aggK, unOp, doPick, branch, idx, readCells, cellsOf, oneOf, aggB, cel, alloc, doAlloc, newRow, nilCheck, extract, getO, ended, resultOf, oneOrTup, rowK, loopK, moved, fieldAddr, field, part, index, sameSz, equalTop, equal, nilFn, nilPtr, nilSl, boolOf, List.getElem?_cons_succ, List.getElem?_cons_zero, List.append_eq, List.cons_append, List.nil_append, List.append_nil, List.length_cons, List.length_nil, Nat.reduceAdd, Nat.reduceSub, Nat.beq, Option.bind_some, nc0, nc1, Int.cast_ofNat_Int, int_beq, int_bne, str_beq, ↓reduceIte, Int.reduceEq, Int.reduceLT, Int.reduceLE, Int.reduceNe, Int.reduceAdd, Int.reduceSub, Int.reduceMul, Int.reduceNeg, Int.reduceGT, Int.reduceGE, ge_iff_le, gt_iff_lt, not_true_eq_false, not_false_eq_true, decide_not, decide_true, decide_false, Bool.not_true, Bool.not_false, Bool.and_true, Bool.true_and, Bool.and_false, Bool.false_and, Bool.or_true, Bool.true_or, Bool.or_false, Bool.false_or, and_true, true_and, and_self, Nat.zero_add, Nat.add_zero, Int.toNat_zero, Nat.zero_mul, wp_pure, beq_self_eq_true, bne_self_eq_false, reduceCtorEq, q1, k5, hs.bLen t22, opv_det (f13 s _ h1 n1 hs hfl), g3, tvv, tvn, d1, d2, d3, d4]
        refine run_draw.2 ⟨rfl, ?_⟩
        first
        | (simp only [fe_nil, fe_cons, fe_guard, fego_some, feg_bool, feg_tt, feg_ff, feg_tf, feg_ft, feg_un, fev_ask, fev_ob, fev_pure, fev_fail, core1, cont_block_any, opg_un, u8, tyr, fgr, hkr, execOp, opd, opds, opt, ofValue, ofArr, ofList, ops2, putT, put, nth, forgetL, doCall, callV_func, builtin, one1, two2, some1, foldM2, min2, max2, blr, bCopy, intB, und, sizeOf, zeroOf, lenOf, binOp, binInt, binOther, shiftB, shiftOp, intOp, wrapI, strOp, strK, intK, slK, aggK, unOp, doPick, branch, idx, readCells, cellsOf, oneOf, aggB, cel, alloc, doAlloc, newRow, nilCheck, extract, getO, ended, resultOf, oneOrTup, rowK, loopK, moved, fieldAddr, field, part, index, sameSz, equalTop, equal, nilFn, nilPtr, nilSl, boolOf, List.getElem?_cons_succ, List.getElem?_cons_zero, List.append_eq, List.cons_append, List.nil_append, List.append_nil, List.length_cons, List.length_nil, Nat.reduceAdd, Nat.reduceSub, Nat.beq, Option.bind_some, nc0, nc1, Int.cast_ofNat_Int, int_beq, int_bne, str_beq, ↓reduceIte, Int.reduceEq, Int.reduceLT, Int.reduceLE, Int.reduceNe, Int.reduceAdd, Int.reduceSub, Int.reduceMul, Int.reduceNeg, Int.reduceGT, Int.reduceGE, ge_iff_le, gt_iff_lt, not_true_eq_false, not_false_eq_true, decide_not, decide_true, decide_false, Bool.not_true, Bool.not_false, Bool.and_true, Bool.true_and, Bool.and_false, Bool.false_and, Bool.or_true, Bool.true_or, Bool.or_false, Bool.false_or, and_true, true_and, and_self, Nat.zero_add, Nat.add_zero, Int.toNat_zero, Nat.zero_mul, wp_pure, beq_self_eq_true, bne_self_eq_false, reduceCtorEq]
           refine Eq.trans (congrArg (fun b => fine b _) (show _ = [0, 1, 3, 7, 15, 31, 63, 127, 255, 511, 1023, 2047, 4095, 8191, 4095, 20479, 53247, 118783, 262143, 524287, 1048575, 2097151, 4194303] from rfl)) ?_
           simp (maxSteps := 10000000) only [fine, List.all_cons, List.all_nil, clash_pl, clash_pr, Bool.not_false, Bool.true_or, Bool.and_true, Bool.true_and]
           done)
        | (have h01 := o.2.2.1 c1 (by rw [hsay]; rfl)
           have e3 : (oneV c x).1 = b2i (decide ((oneV c x).1 = 1)) := by
             rcases h01 with e | e <;> rw [e] <;> rfl
           cases z0 : decide ((oneV c x).1 = 0) <;> cases z1 : decide ((oneV c x).1 = 1)
           · simp only [decide_eq_false_iff_not] at z0 z1; omega
           all_goals
             simp only [fe_nil, fe_cons, fe_guard, fego_some, feg_bool, feg_tt, feg_ff, feg_tf, feg_ft, feg_un, fev_ask, fev_ob, fev_pure, fev_fail, core1, cont_block_any, opg_un, u8, tyr, fgr, hkr, execOp, opd, opds, opt, ofValue, ofArr, ofList, ops2, putT, put, nth, forgetL, doCall, callV_func, builtin, one1, two2, some1, foldM2, min2, max2, blr, bCopy, intB, und, sizeOf, zeroOf, lenOf, binOp, binInt, binOther, shiftB, shiftOp, intOp, wrapI, strOp, strK, intK, slK, aggK, unOp, doPick, branch, idx, readCells, cellsOf, oneOf, aggB, cel, alloc, doAlloc, newRow, nilCheck, extract, getO, ended, resultOf, oneOrTup, rowK, loopK, moved, fieldAddr, field, part, index, sameSz, equalTop, equal, nilFn, nilPtr, nilSl, boolOf, List.getElem?_cons_succ, List.getElem?_cons_zero, List.append_eq, List.cons_append, List.nil_append, List.append_nil, List.length_cons, List.length_nil, Nat.reduceAdd, Nat.reduceSub, Nat.beq, Option.bind_some, nc0, nc1, Int.cast_ofNat_Int, int_beq, int_bne, str_beq, ↓reduceIte, Int.reduceEq, Int.reduceLT, Int.reduceLE, Int.reduceNe, Int.reduceAdd, Int.reduceSub, Int.reduceMul, Int.reduceNeg, Int.reduceGT, Int.reduceGE, ge_iff_le, gt_iff_lt, not_true_eq_false, not_false_eq_true, decide_not, decide_true, decide_false, Bool.not_true, Bool.not_false, Bool.and_true, Bool.true_and, Bool.and_false, Bool.false_and, Bool.or_true, Bool.true_or, Bool.or_false, Bool.false_or, and_true, true_and, and_self, Nat.zero_add, Nat.add_zero, Int.toNat_zero, Nat.zero_mul, wp_pure, beq_self_eq_true, bne_self_eq_false, reduceCtorEq, z0, z1]
             rw [fev_rd (hs.str_rd t22 t9 t5)]
             simp only [fe_nil, fe_cons, fe_guard, fego_some, feg_bool, feg_tt, feg_ff, feg_tf, feg_ft, feg_un, fev_ask, fev_ob, fev_pure, fev_fail, core1, cont_block_any, opg_un, u8, tyr, fgr, hkr, execOp, opd, opds, opt, ofValue, ofArr, ofList, ops2, putT, put, nth, forgetL, doCall, callV_func, builtin, one1, two2, some1, foldM2, min2, max2, blr, bCopy, intB, und, sizeOf, zeroOf, lenOf, binOp, binInt, binOther, shiftB, shiftOp, intOp, wrapI, strOp, strK, intK, slK, aggK, unOp, doPick, branch, idx, readCells, cellsOf, oneOf, aggB, cel, alloc, doAlloc, newRow, nilCheck, extract, getO, ended, resultOf, oneOrTup, rowK, loopK, moved, fieldAddr, field, part, index, sameSz, equalTop, equal, nilFn, nilPtr, nilSl, boolOf, List.getElem?_cons_succ, List.getElem?_cons_zero, List.append_eq, List.cons_append, List.nil_append, List.append_nil, List.length_cons, List.length_nil, Nat.reduceAdd, Nat.reduceSub, Nat.beq, Option.bind_some, nc0, nc1, Int.cast_ofNat_Int, int_beq, int_bne, str_beq, ↓reduceIte, Int.reduceEq, Int.reduceLT, Int.reduceLE, Int.reduceNe, Int.reduceAdd, Int.reduceSub, Int.reduceMul, Int.reduceNeg, Int.reduceGT, Int.reduceGE, ge_iff_le, gt_iff_lt, not_true_eq_false, not_false_eq_true, decide_not, decide_true, decide_false, Bool.not_true, Bool.not_false, Bool.and_true, Bool.true_and, Bool.and_false, Bool.false_and, Bool.or_true, Bool.true_or, Bool.or_false, Bool.false_or, and_true, true_and, and_self, Nat.zero_add, Nat.add_zero, Int.toNat_zero, Nat.zero_mul, wp_pure, beq_self_eq_true, bne_self_eq_false, reduceCtorEq, z0, z1]
             refine fev_free hf1 (f17 _ _ _) (f17 _ _ _) fun p h2 n2 hn2 hf2 ⟨hp, hpb, hold2⟩ => ?_
             rw [← z1, ← e3] at hp
             simp only [fe_nil, fe_cons, fe_guard, fego_some, feg_bool, feg_tt, feg_ff, feg_tf, feg_ft, feg_un, fev_ask, fev_ob, fev_pure, fev_fail, core1, cont_block_any, opg_un, u8, tyr, fgr, hkr, execOp, opd, opds, opt, ofValue, ofArr, ofList, ops2, putT, put, nth, forgetL, doCall, callV_func, builtin, one1, two2, some1, foldM2, min2, max2, blr, bCopy, intB, und, sizeOf, zeroOf, lenOf, binOp, binInt, binOther, shiftB, shiftOp, intOp, wrapI, strOp, strK, intK, slK, aggK, unOp, doPick, branch, idx, readCells, cellsOf, oneOf, aggB, cel, alloc, doAlloc, newRow, nilCheck, extract, getO, ended, resultOf, oneOrTup, rowK, loopK, moved, fieldAddr, field, part, index, sameSz, equalTop, equal, nilFn, nilPtr, nilSl, boolOf, List.getElem?_cons_succ, List.getElem?_cons_zero, List.append_eq, List.cons_append, List.nil_append, List.append_nil, List.length_cons, List.length_nil, Nat.reduceAdd, Nat.reduceSub, Nat.beq, Option.bind_some, nc0, nc1, Int.cast_ofNat_Int, int_beq, int_bne, str_beq, ↓reduceIte, Int.reduceEq, Int.reduceLT, Int.reduceLE, Int.reduceNe, Int.reduceAdd, Int.reduceSub, Int.reduceMul, Int.reduceNeg, Int.reduceGT, Int.reduceGE, ge_iff_le, gt_iff_lt, not_true_eq_false, not_false_eq_true, decide_not, decide_true, decide_false, Bool.not_true, Bool.not_false, Bool.and_true, Bool.true_and, Bool.and_false, Bool.false_and, Bool.or_true, Bool.true_or, Bool.or_false, Bool.false_or, and_true, true_and, and_self, Nat.zero_add, Nat.add_zero, Int.toNat_zero, Nat.zero_mul, wp_pure, beq_self_eq_true, bne_self_eq_false, reduceCtorEq, z0, z1]
             rw [fev_rd (hp.str_rd t22 t9 t5)]
             simp only [fe_nil, fe_cons, fe_guard, fego_some, feg_bool, feg_tt, feg_ff, feg_tf, feg_ft, feg_un, fev_ask, fev_ob, fev_pure, fev_fail, core1, cont_block_any, opg_un, u8, tyr, fgr, hkr, execOp, opd, opds, opt, ofValue, ofArr, ofList, ops2, putT, put, nth, forgetL, doCall, callV_func, builtin, one1, two2, some1, foldM2, min2, max2, blr, bCopy, intB, und, sizeOf, zeroOf, lenOf, binOp, binInt, binOther, shiftB, shiftOp, intOp, wrapI, strOp, strK, intK, slK, aggK, unOp, doPick, branch, idx, readCells, cellsOf, oneOf, aggB, cel, alloc, doAlloc, newRow, nilCheck, extract, getO, ended, resultOf, oneOrTup, rowK, loopK, moved, fieldAddr, field, part, index, sameSz, equalTop, equal, nilFn, nilPtr, nilSl, boolOf, List.getElem?_cons_succ, List.getElem?_cons_zero, List.append_eq, List.cons_append, List.nil_append, List.append_nil, List.length_cons, List.length_nil, Nat.reduceAdd, Nat.reduceSub, Nat.beq, Option.bind_some, nc0, nc1, Int.cast_ofNat_Int, int_beq, int_bne, str_beq, ↓reduceIte, Int.reduceEq, Int.reduceLT, Int.reduceLE, Int.reduceNe, Int.reduceAdd, Int.reduceSub, Int.reduceMul, Int.reduceNeg, Int.reduceGT, Int.reduceGE, ge_iff_le, gt_iff_lt, not_true_eq_false, not_false_eq_true, decide_not, decide_true, decide_false, Bool.not_true, Bool.not_false, Bool.and_true, Bool.true_and, Bool.and_false, Bool.false_and, Bool.or_true, Bool.true_or, Bool.or_false, Bool.false_or, and_true, true_and, and_self, Nat.zero_add, Nat.add_zero, Int.toNat_zero, Nat.zero_mul, wp_pure, beq_self_eq_true, bne_self_eq_false, reduceCtorEq, z0, z1, eq_self]
             refine Eq.trans (congrArg (fun b => fine b _) (show _ = [0, 1, 3, 7, 15, 31, 63, 127, 255, 511, 1023, 2047, 4095, 8191, 4095, 20479, 53247, 118783, 262143, 524287, 1048575, 2097151, 4194303] from rfl)) ?_
             have hs9 : ∀ id, id ∈ (ownId s).toList → id < n1 := below_id hsb
             simp (maxSteps := 10000000) only [fine, List.all_cons, List.all_nil, clash_pl, clash_pr, clash_rr, clash_nn, clash_rn _ _ _ _ _ _ hs9, Bool.not_false, Bool.true_or, Bool.and_true, Bool.true_and, List.getD_cons_zero, List.getD_cons_succ, Nat.testBit, Nat.reduceShiftRight, Nat.reduceAnd, Nat.reduceBNe, bne_self_eq_false, Bool.or_true])
    · have o2 := o.2.2.2.2 c1
      simp only [core1, cont_block_any, opg_un, u8, tyr, fgr, hkr, execOp, opd, opds, opt, ofValue, ofArr, ofList, ops2, putT, put, nth, forgetL, doCall, callV_func, builtin, one1, two2, some1, foldM2, min2, max2, blr, bCopy, intB, und, sizeOf, zeroOf, lenOf, binOp, binInt, binOther, shiftB, shiftOp, intOp, wrapI, strOp, strK, intK, slK, aggK, unOp, doPick, branch, idx, readCells, cellsOf, oneOf, aggB, cel, alloc, doAlloc, newRow, nilCheck, extract, getO, ended, resultOf, oneOrTup, rowK, loopK, moved, fieldAddr, field, part, index, sameSz, equalTop, equal, nilFn, nilPtr, nilSl, boolOf, List.getElem?_cons_succ, List.getElem?_cons_zero, List.append_eq, List.cons_append, List.nil_append, List.append_nil, List.length_cons, List.length_nil, Nat.reduceAdd, Nat.reduceSub, Nat.beq, Option.bind_some, nc0, nc1, Int.cast_ofNat_Int, int_beq, int_bne, str_beq, ↓reduceIte, Int.reduceEq, Int.reduceLT, Int.reduceLE, Int.reduceNe, Int.reduceAdd, Int.reduceSub, Int.reduceMul, Int.reduceNeg, Int.reduceGT, Int.reduceGE, ge_iff_le, gt_iff_lt, not_true_eq_false, not_false_eq_true, decide_not, decide_true, decide_false, Bool.not_true, Bool.not_false, Bool.and_true, Bool.true_and, Bool.and_false, Bool.false_and, Bool.or_true, Bool.true_or, Bool.or_false, Bool.false_or, and_true, true_and, and_self, Nat.zero_add, Nat.add_zero, Int.toNat_zero, Nat.zero_mul, wp_pure, beq_self_eq_true, bne_self_eq_false, reduceCtorEq, c19, c21, c25, rx, ry, c1, a2, o2]
end Go.Am.Ytfomdaajpembmaa
