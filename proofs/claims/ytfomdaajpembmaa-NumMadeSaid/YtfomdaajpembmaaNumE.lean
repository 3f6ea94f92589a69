/- A number's bytes: the document's. -/
-- env NumEnv
import Derived.Test.YtfomdaajpembmaaNumB
set_option linter.unusedSimpArgs false
set_option linter.unusedVariables false
set_option linter.defProp false
set_option maxRecDepth 10000
namespace Go.Am.Ytfomdaajpembmaa
open Go Go.Am Go.Proofs
/-- Digits by 256, the lowest first. -/
def dig (m : Nat) : List UInt8 := if h : m = 0 then [] else UInt8.ofNat (m % 256) :: dig (m / 256)
termination_by m
decreasing_by exact Nat.div_lt_self (Nat.pos_of_ne_zero h) (by decide)
theorem dig_zero : dig 0 = [] := by rw [dig]; simp
theorem dig_pos {m : Nat} (h : 0 < m) : dig m = UInt8.ofNat (m % 256) :: dig (m / 256) := by rw [dig]; simp [Nat.ne_of_gt h]
theorem dig_len : ∀ (k m : Nat), m < 256 ^ k → (dig m).length ≤ k := by
  intro k
  induction k with
  | zero => intro m h; have : m = 0 := by simpa using h
            subst this; simp [dig_zero]
  | succ k ih =>
    intro m h
    by_cases hm : m = 0
    · subst hm; simp [dig_zero]
    · rw [dig_pos (Nat.pos_of_ne_zero hm)]
      simp only [List.length_cons]
      have := ih (m / 256) (by rw [Nat.div_lt_iff_lt_mul (by decide)]; rw [Nat.pow_succ] at h; exact h)
      omega
theorem u8_ofNat (m : Nat) : u8 (UInt8.ofNat m) = .int .u8 ((m % 256 : Nat) : Int) := by simp [u8]
theorem wrap_u8 (z : Int) (h : 0 ≤ z) : IntKind.u8.wrap z = ((z.toNat % 256 : Nat) : Int) := by rw [IntKind.wrap_u8]; omega
theorem tm256 (m : Nat) : ((m : Int)).tmod 256 = ((m % 256 : Nat) : Int) := by rw [Int.tmod_eq_emod_of_nonneg (by omega)]; omega
theorem td256 (m : Nat) : ((m : Int)).tdiv 256 = ((m / 256 : Nat) : Int) := by rw [Int.tdiv_eq_ediv_of_nonneg (by omega)]; omega
/-- The loop of the document's Bytes. -/
theorem loop31 (Q : Post0) (ks : List Kf) (N : Nat) (y4 : AVal) : ∀ (m : Nat) (acc : List UInt8) (cnt : Nat) (v : AVal) (h : Hp) (n : Nat) (x2 x5 x8 x12 x23 x31 x37 : AVal), m < 9223372036854775808 → N ≤ n → Own h n 5 1 v cnt (acc.map u8) → (∀ j, ownId v = some j → N ≤ j) → cnt + (dig m).length ≤ 1000000 →
    (∀ v' h' n' cnt' (x2 x5 x8 x12 x23 x31 x37 : AVal), N ≤ n' → Own h' n' 5 1 v' cnt' ((acc ++ dig m).map u8) → (∀ j, ownId v' = some j → N ≤ j) → Old h h' N → Kont env 31 none Q ks (.exit 0) (.int .i64 0 :: AVal.junk :: x2 :: v' :: y4 :: x5 :: AVal.junk :: AVal.junk :: x8 :: AVal.junk :: AVal.junk :: AVal.junk :: x12 :: AVal.junk :: AVal.junk :: AVal.junk :: AVal.junk :: AVal.junk :: AVal.junk :: AVal.junk :: AVal.junk :: AVal.junk :: AVal.junk :: x23 :: AVal.junk :: AVal.junk :: AVal.junk :: AVal.junk :: AVal.junk :: AVal.junk :: AVal.junk :: x31 :: AVal.junk :: AVal.junk :: AVal.junk :: AVal.junk :: AVal.junk :: x37 :: AVal.junk :: AVal.junk :: AVal.junk :: AVal.junk :: AVal.junk :: AVal.junk :: AVal.junk :: AVal.junk :: AVal.junk :: []) h' n') →
    Run env 31 none Q (.loop lp31_0) ks (.int .i64 (m : Nat) :: AVal.junk :: x2 :: v :: y4 :: x5 :: AVal.junk :: AVal.junk :: x8 :: AVal.junk :: AVal.junk :: AVal.junk :: x12 :: AVal.junk :: AVal.junk :: AVal.junk :: AVal.junk :: AVal.junk :: AVal.junk :: AVal.junk :: AVal.junk :: AVal.junk :: AVal.junk :: x23 :: AVal.junk :: AVal.junk :: AVal.junk :: AVal.junk :: AVal.junk :: AVal.junk :: AVal.junk :: x31 :: AVal.junk :: AVal.junk :: AVal.junk :: AVal.junk :: AVal.junk :: x37 :: AVal.junk :: AVal.junk :: AVal.junk :: AVal.junk :: AVal.junk :: AVal.junk :: AVal.junk :: AVal.junk :: AVal.junk :: []) h n := by
  intro m
  induction m using Nat.strongRecOn with
  | _ m ih =>
    intro acc cnt v h n x2 x5 x8 x12 x23 x31 x37 hm hN ho hid hb hq
    rw [run_loop]
    by_cases h0 : m = 0
    · subst h0
      simp only [lp31_0, loopsOf, Try.f31, Option.getD_some, core1, cont_block_any, opg_un, u8, tyr, fgr, hkr, execOp, opd, opds, opt, ofValue, ofArr, ofList, ops2, putT, put, nth, forgetL, doCall, callV_func, builtin, one1, two2, some1, foldM2, min2, max2, blr, bCopy, intB, und, sizeOf, zeroOf, lenOf, binOp, binInt, binOther, shiftB, shiftOp, intOp, wrapI, strOp, strK, intK, slK, aggK, unOp, doPick, branch, idx, readCells, cellsOf, oneOf, aggB, cel, alloc, doAlloc, newRow, nilCheck, extract, getO, ended, resultOf, oneOrTup, rowK, loopK, moved, fieldAddr, field, part, index, sameSz, equalTop, equal, nilFn, nilPtr, nilSl, boolOf, List.getElem?_cons_succ, List.getElem?_cons_zero, List.append_eq, List.cons_append, List.nil_append, List.append_nil, List.length_cons, List.length_nil, Nat.reduceAdd, Nat.reduceSub, Nat.beq, Option.bind_some, nc0, nc1, Int.cast_ofNat_Int, int_beq, int_bne, str_beq, ↓reduceIte, Int.reduceEq, Int.reduceLT, Int.reduceLE, Int.reduceNe, Int.reduceAdd, Int.reduceSub, Int.reduceMul, Int.reduceNeg, Int.reduceGT, Int.reduceGE, ge_iff_le, gt_iff_lt, not_true_eq_false, not_false_eq_true, decide_not, decide_true, decide_false, Bool.not_true, Bool.not_false, Bool.and_true, Bool.true_and, Bool.and_false, Bool.false_and, Bool.or_true, Bool.true_or, Bool.or_false, Bool.false_or, and_true, true_and, and_self, Nat.zero_add, Nat.add_zero, Int.toNat_zero, Nat.zero_mul, wp_pure, beq_self_eq_true, bne_self_eq_false, reduceCtorEq, indexAddr, load, store, doStore, buildSlice, build, reps, fill, sizesOf, List.take_succ_cons, List.take_zero, List.drop_succ_cons, List.drop_zero, Nat.reduceMul, Nat.ble, Nat.reduceLeDiff, Nat.mul_one, Nat.one_mul, writeCells, setAll, Cont.size, Cont.set, Cont.at, Cont.sub, upd_same, upd_ne, List.all_cons, List.all_nil, Option.some.injEq, exists_eq_left', Int.reduceToNat, ne_eq, and_true, true_and, List.length_cons, List.length_nil, Nat.mul_zero, Nat.zero_mul, convert, convStr, isU8, List.getD_cons_zero, List.getD_cons_succ]
      refine hq v h n cnt _ _ _ _ _ _ _ hN (by rw [dig_zero, List.append_nil]; exact ho) hid (Old.refl _ _)
    · have hp : (0 : Int) < (m : Int) := by omega
      have hmod : (0 : Int) ≤ ((m % 256 : Nat) : Int) := by omega
      simp only [lp31_0, loopsOf, Try.f31, Option.getD_some, core1, cont_block_any, opg_un, u8, tyr, fgr, hkr, execOp, opd, opds, opt, ofValue, ofArr, ofList, ops2, putT, put, nth, forgetL, doCall, callV_func, builtin, one1, two2, some1, foldM2, min2, max2, blr, bCopy, intB, und, sizeOf, zeroOf, lenOf, binOp, binInt, binOther, shiftB, shiftOp, intOp, wrapI, strOp, strK, intK, slK, aggK, unOp, doPick, branch, idx, readCells, cellsOf, oneOf, aggB, cel, alloc, doAlloc, newRow, nilCheck, extract, getO, ended, resultOf, oneOrTup, rowK, loopK, moved, fieldAddr, field, part, index, sameSz, equalTop, equal, nilFn, nilPtr, nilSl, boolOf, List.getElem?_cons_succ, List.getElem?_cons_zero, List.append_eq, List.cons_append, List.nil_append, List.append_nil, List.length_cons, List.length_nil, Nat.reduceAdd, Nat.reduceSub, Nat.beq, Option.bind_some, nc0, nc1, Int.cast_ofNat_Int, int_beq, int_bne, str_beq, ↓reduceIte, Int.reduceEq, Int.reduceLT, Int.reduceLE, Int.reduceNe, Int.reduceAdd, Int.reduceSub, Int.reduceMul, Int.reduceNeg, Int.reduceGT, Int.reduceGE, ge_iff_le, gt_iff_lt, not_true_eq_false, not_false_eq_true, decide_not, decide_true, decide_false, Bool.not_true, Bool.not_false, Bool.and_true, Bool.true_and, Bool.and_false, Bool.false_and, Bool.or_true, Bool.true_or, Bool.or_false, Bool.false_or, and_true, true_and, and_self, Nat.zero_add, Nat.add_zero, Int.toNat_zero, Nat.zero_mul, wp_pure, beq_self_eq_true, bne_self_eq_false, reduceCtorEq, indexAddr, load, store, doStore, buildSlice, build, reps, fill, sizesOf, List.take_succ_cons, List.take_zero, List.drop_succ_cons, List.drop_zero, Nat.reduceMul, Nat.ble, Nat.reduceLeDiff, Nat.mul_one, Nat.one_mul, writeCells, setAll, Cont.size, Cont.set, Cont.at, Cont.sub, upd_same, upd_ne, List.all_cons, List.all_nil, Option.some.injEq, exists_eq_left', Int.reduceToNat, ne_eq, and_true, true_and, List.length_cons, List.length_nil, Nat.mul_zero, Nat.zero_mul, convert, convStr, isU8, List.getD_cons_zero, List.getD_cons_succ, hp, tm256, td256, wrap_u8 _ hmod]
      have hdl := hb
      rw [dig_pos (by omega)] at hdl
      simp only [List.length_cons] at hdl
      have hne : ∀ j, ownId v = some j → j ≠ n := fun j hj => by have := ho.id_lt hj; omega
      refine own_append (i := ⟨.int .u8, 1, 1, .int .u8 0⟩) (e := 5) (xs := acc.map u8) (ys := [.int .u8 ((m % 256 : Nat) : Int)]) (cnt := cnt) (e2 := 5) (ho.keep (by omega) fun j hj => upd_ne _ _ (hne j hj)) rfl rfl ti5 ?_ rfl (by decide) (by decide) rfl
        (fun e => hne n e rfl) (by simp only [Nat.mul_one]; omega) (by omega) ?_
      · rw [upd_same, Int.toNat_natCast, Nat.mod_mod]
      intro v' h' hown hid' hold
      simp (disch := omega) only [core1, cont_block_any, opg_un, u8, tyr, fgr, hkr, execOp, opd, opds, opt, ofValue, ofArr, ofList, ops2, putT, put, nth, forgetL, doCall, callV_func, builtin, one1, two2, some1, foldM2, min2, max2, blr, bCopy, intB, und, sizeOf, zeroOf, lenOf, binOp, binInt, binOther, shiftB, shiftOp, intOp, wrapI, strOp, strK, intK, slK, aggK, unOp, doPick, branch, idx, readCells, cellsOf, oneOf, aggB, cel, alloc, doAlloc, newRow, nilCheck, extract, getO, ended, resultOf, oneOrTup, rowK, loopK, moved, fieldAddr, field, part, index, sameSz, equalTop, equal, nilFn, nilPtr, nilSl, boolOf, List.getElem?_cons_succ, List.getElem?_cons_zero, List.append_eq, List.cons_append, List.nil_append, List.append_nil, List.length_cons, List.length_nil, Nat.reduceAdd, Nat.reduceSub, Nat.beq, Option.bind_some, nc0, nc1, Int.cast_ofNat_Int, int_beq, int_bne, str_beq, ↓reduceIte, Int.reduceEq, Int.reduceLT, Int.reduceLE, Int.reduceNe, Int.reduceAdd, Int.reduceSub, Int.reduceMul, Int.reduceNeg, Int.reduceGT, Int.reduceGE, ge_iff_le, gt_iff_lt, not_true_eq_false, not_false_eq_true, decide_not, decide_true, decide_false, Bool.not_true, Bool.not_false, Bool.and_true, Bool.true_and, Bool.and_false, Bool.false_and, Bool.or_true, Bool.true_or, Bool.or_false, Bool.false_or, and_true, true_and, and_self, Nat.zero_add, Nat.add_zero, Int.toNat_zero, Nat.zero_mul, wp_pure, beq_self_eq_true, bne_self_eq_false, reduceCtorEq, indexAddr, load, store, doStore, buildSlice, build, reps, fill, sizesOf, List.take_succ_cons, List.take_zero, List.drop_succ_cons, List.drop_zero, Nat.reduceMul, Nat.ble, Nat.reduceLeDiff, Nat.mul_one, Nat.one_mul, writeCells, setAll, Cont.size, Cont.set, Cont.at, Cont.sub, upd_same, upd_ne, List.all_cons, List.all_nil, Option.some.injEq, exists_eq_left', Int.reduceToNat, ne_eq, and_true, true_and, List.length_cons, List.length_nil, Nat.mul_zero, Nat.zero_mul, td256, w64]
      refine ih (m / 256) (Nat.div_lt_self (by omega) (by decide)) (acc ++ [UInt8.ofNat (m % 256)]) (cnt + 1) v' h' (n + 1 + 1) _ _ _ _ _ _ _ (by omega) (by omega) ?_ ?_ ?_ ?_
      · rw [List.map_append, List.map_singleton, u8_ofNat, Nat.mod_mod]; exact hown
      · intro j hj; rw [hid'] at hj; injection hj with hj; omega
      · omega
      · intro v2 h2 n2 cnt2 x2 x5 x8 x12 x23 x31 x37 hN2 ho2 hid2 hold2
        refine hq v2 h2 n2 cnt2 _ _ _ _ _ _ _ hN2 ?_ hid2 ?_
        · rw [dig_pos (by omega)]; simpa using ho2
        · intro j hj
          rw [hold2 j hj, hold j (by omega) (fun e => by have := hid j e; omega), upd_ne _ _ (by omega)]
/-- The sign is laid into the last byte, or behind it. -/
def fin (s : Nat) (l : List UInt8) : List UInt8 :=
  match l.getLast? with
  | none => []
  | some b => if 128 ≤ b.toNat then l ++ [UInt8.ofNat s] else l.dropLast ++ [UInt8.ofNat (b.toNat + s)]
def sgn (x : Int) : Nat := if x < 0 then 128 else 0
def fmB (x : Int) : List UInt8 := fin (sgn x) (dig x.natAbs)
theorem lenOwn {h : Hp} {n cnt : Nat} {e : TypeId} {v : AVal} {l : List UInt8} (ho : Own h n e 1 v cnt (l.map u8)) : cnt = l.length := by have := ho.length; simp at this; omega
theorem fin_nil (s : Nat) : fin s [] = [] := rfl
theorem fin_hi (s : Nat) (l : List UInt8) (hl : l ≠ []) (hb : 128 ≤ (l.getLast hl).toNat) : fin s l = l ++ [UInt8.ofNat s] := by
  unfold fin
  rw [List.getLast?_eq_some_getLast hl]
  simp only [hb, ↓reduceIte]
theorem fin_lo (s : Nat) (l : List UInt8) (hl : l ≠ []) (hb : ¬ 128 ≤ (l.getLast hl).toNat) : fin s l = l.dropLast ++ [UInt8.ofNat ((l.getLast hl).toNat + s)] := by
  unfold fin
  rw [List.getLast?_eq_some_getLast hl]
  simp only [hb, ↓reduceIte]
theorem set_last (l : List UInt8) (hl : l ≠ []) (b : UInt8) : l.set (l.length - 1) b = l.dropLast ++ [b] := by
  rw [List.set_eq_take_append_cons_drop]
  have h1 : l.length - 1 < l.length := by have := List.length_pos_iff.2 hl; omega
  rw [if_pos h1, List.dropLast_eq_take]
  congr 1
  have : l.drop (l.length - 1 + 1) = [] := by rw [List.drop_eq_nil_iff]; omega
  rw [this]
theorem t22 : und env 22 = M.pure (.slice 5) := rfl
theorem s5 : sizeOf env 5 = M.pure 1 := rfl
theorem last_eq (l : List UInt8) (hl : l ≠ []) (hi : l.length - 1 < l.length) : l[l.length - 1] = l.getLast hl := by rw [List.getLast_eq_getElem]
theorem u8add (a b : Nat) (h : a + b < 256) : u8 (UInt8.ofNat (a + b)) = .int .u8 ((a : Int) + b) := by rw [u8_ofNat, Nat.mod_eq_of_lt h]; rfl
def sg (neg : Bool) : Nat := match neg with | true => 128 | false => 0
def sv (neg : Bool) (m : Nat) : Int := match neg with | true => -(m : Int) | false => m
theorem f31a (neg : Bool) (m : Nat) (hm : m < 9223372036854775808) (hn : neg = true → 0 < m) (h : Hp) (n : Nat) : Wp (callI env (evalW env) 31 [.int .i64 (sv neg m)]) h n fun v' h' n' => ∃ cnt, Own h' n' 5 1 v' cnt ((fin (sg neg) (dig m)).map u8) ∧ (∀ j, ownId v' = some j → n ≤ j) ∧ Old h h' n := by
  refine wp_callI ff31 fi31 ?_
  have hdl : (dig m).length ≤ 8 := dig_len 8 _ (by have : m < 18446744073709551616 := by omega
                                                   exact this)
  have hz1 : IntKind.i64.wrap (0 - -(m : Int)) = (m : Int) := by rw [w64 (by omega) (by omega)]; omega
  have hz2 : ¬ (m : Int) < 0 := by omega
  have hz3 : neg = true → -(m : Int) < 0 := fun e => by have := hn e; omega
  cases neg with
  | true =>
    have hz4 := hz3 rfl
    simp only [fu31, Try.f31, Option.getD_some, List.replicate, core1, cont_block_any, opg_un, u8, tyr, fgr, hkr, execOp, opd, opds, opt, ofValue, ofArr, ofList, ops2, putT, put, nth, forgetL, doCall, callV_func, builtin, one1, two2, some1, foldM2, min2, max2, blr, bCopy, intB, und, sizeOf, zeroOf, lenOf, binOp, binInt, binOther, shiftB, shiftOp, intOp, wrapI, strOp, strK, intK, slK, aggK, unOp, doPick, branch, idx, readCells, cellsOf, oneOf, aggB, cel, alloc, doAlloc, newRow, nilCheck, extract, getO, ended, resultOf, oneOrTup, rowK, loopK, moved, fieldAddr, field, part, index, sameSz, equalTop, equal, nilFn, nilPtr, nilSl, boolOf, List.getElem?_cons_succ, List.getElem?_cons_zero, List.append_eq, List.cons_append, List.nil_append, List.append_nil, List.length_cons, List.length_nil, Nat.reduceAdd, Nat.reduceSub, Nat.beq, Option.bind_some, nc0, nc1, Int.cast_ofNat_Int, int_beq, int_bne, str_beq, ↓reduceIte, Int.reduceEq, Int.reduceLT, Int.reduceLE, Int.reduceNe, Int.reduceAdd, Int.reduceSub, Int.reduceMul, Int.reduceNeg, Int.reduceGT, Int.reduceGE, ge_iff_le, gt_iff_lt, not_true_eq_false, not_false_eq_true, decide_not, decide_true, decide_false, Bool.not_true, Bool.not_false, Bool.and_true, Bool.true_and, Bool.and_false, Bool.false_and, Bool.or_true, Bool.true_or, Bool.or_false, Bool.false_or, and_true, true_and, and_self, Nat.zero_add, Nat.add_zero, Int.toNat_zero, Nat.zero_mul, wp_pure, beq_self_eq_true, bne_self_eq_false, reduceCtorEq, hz1, hz4, sv]
    refine loop31 _ _ n _ m [] 0 .nils h n _ _ _ _ _ _ _ (by omega) (Nat.le_refl _) .nil (fun j hj => by cases hj) (by omega) ?_
    intro v h1 n1 cnt x2 x5 x8 x12 x23 x31 x37 hn1 ho hid hold
    have hl := lenOwn ho
    simp only [List.nil_append] at ho hl
    have hb := ho.bytes
    by_cases he : dig m = []
    · have hlen : (((dig m).length : Nat) : Int) = 0 := by rw [he]; rfl
      simp (disch := omega) only [core1, cont_block_any, opg_un, u8, tyr, fgr, hkr, execOp, opd, opds, opt, ofValue, ofArr, ofList, ops2, putT, put, nth, forgetL, doCall, callV_func, builtin, one1, two2, some1, foldM2, min2, max2, blr, bCopy, intB, und, sizeOf, zeroOf, lenOf, binOp, binInt, binOther, shiftB, shiftOp, intOp, wrapI, strOp, strK, intK, slK, aggK, unOp, doPick, branch, idx, readCells, cellsOf, oneOf, aggB, cel, alloc, doAlloc, newRow, nilCheck, extract, getO, ended, resultOf, oneOrTup, rowK, loopK, moved, fieldAddr, field, part, index, sameSz, equalTop, equal, nilFn, nilPtr, nilSl, boolOf, List.getElem?_cons_succ, List.getElem?_cons_zero, List.append_eq, List.cons_append, List.nil_append, List.append_nil, List.length_cons, List.length_nil, Nat.reduceAdd, Nat.reduceSub, Nat.beq, Option.bind_some, nc0, nc1, Int.cast_ofNat_Int, int_beq, int_bne, str_beq, ↓reduceIte, Int.reduceEq, Int.reduceLT, Int.reduceLE, Int.reduceNe, Int.reduceAdd, Int.reduceSub, Int.reduceMul, Int.reduceNeg, Int.reduceGT, Int.reduceGE, ge_iff_le, gt_iff_lt, not_true_eq_false, not_false_eq_true, decide_not, decide_true, decide_false, Bool.not_true, Bool.not_false, Bool.and_true, Bool.true_and, Bool.and_false, Bool.false_and, Bool.or_true, Bool.true_or, Bool.or_false, Bool.false_or, and_true, true_and, and_self, Nat.zero_add, Nat.add_zero, Int.toNat_zero, Nat.zero_mul, wp_pure, beq_self_eq_true, bne_self_eq_false, reduceCtorEq, hb.bLen t22, hlen]
      refine ⟨0, ?_, (fun j hj => by cases hj), hold⟩
      rw [he, fin_nil]; exact .nil
    · have hpos := List.length_pos_iff.2 he
      have hlen : ¬ (((dig m).length : Nat) : Int) = 0 := by omega
      have hi1 : 0 ≤ (((dig m).length : Nat) : Int) - 1 ∧ (((dig m).length : Nat) : Int) - 1 < (((dig m).length : Nat) : Int) := by omega
      have hi2 : ((((dig m).length : Nat) : Int) - 1).toNat = (dig m).length - 1 := by omega
      have hi3 : (dig m).length - 1 < (dig m).length := by omega
      have hi4 := last_eq (dig m) he hi3
      have hi5 := ((dig m).getLast he).toNat_lt
      by_cases hbig : 128 ≤ (((dig m).getLast he).toNat : Int)
      · have hcc : cnt ≤ 8 := by omega
        simp (disch := omega) only [core1, cont_block_any, opg_un, u8, tyr, fgr, hkr, execOp, opd, opds, opt, ofValue, ofArr, ofList, ops2, putT, put, nth, forgetL, doCall, callV_func, builtin, one1, two2, some1, foldM2, min2, max2, blr, bCopy, intB, und, sizeOf, zeroOf, lenOf, binOp, binInt, binOther, shiftB, shiftOp, intOp, wrapI, strOp, strK, intK, slK, aggK, unOp, doPick, branch, idx, readCells, cellsOf, oneOf, aggB, cel, alloc, doAlloc, newRow, nilCheck, extract, getO, ended, resultOf, oneOrTup, rowK, loopK, moved, fieldAddr, field, part, index, sameSz, equalTop, equal, nilFn, nilPtr, nilSl, boolOf, List.getElem?_cons_succ, List.getElem?_cons_zero, List.append_eq, List.cons_append, List.nil_append, List.append_nil, List.length_cons, List.length_nil, Nat.reduceAdd, Nat.reduceSub, Nat.beq, Option.bind_some, nc0, nc1, Int.cast_ofNat_Int, int_beq, int_bne, str_beq, ↓reduceIte, Int.reduceEq, Int.reduceLT, Int.reduceLE, Int.reduceNe, Int.reduceAdd, Int.reduceSub, Int.reduceMul, Int.reduceNeg, Int.reduceGT, Int.reduceGE, ge_iff_le, gt_iff_lt, not_true_eq_false, not_false_eq_true, decide_not, decide_true, decide_false, Bool.not_true, Bool.not_false, Bool.and_true, Bool.true_and, Bool.and_false, Bool.false_and, Bool.or_true, Bool.true_or, Bool.or_false, Bool.false_or, and_true, true_and, and_self, Nat.zero_add, Nat.add_zero, Int.toNat_zero, Nat.zero_mul, wp_pure, beq_self_eq_true, bne_self_eq_false, reduceCtorEq, buildSlice, reps, fill, List.take_succ_cons, List.take_zero, List.drop_succ_cons, List.drop_zero, Nat.mul_one, Nat.reduceMul, Nat.ble, opv_new, hb.bLen t22, hlen, hb.index t22 s5, w64, hi1, hi2, hb.load ti5 rfl hi3, hi4, hbig]
        have hne : ∀ j, ownId v = some j → j ≠ n1 := fun j hj => by have := ho.id_lt hj; omega
        refine own_append (i := ⟨.int .u8, 1, 1, .int .u8 0⟩) (e := 5) (xs := (dig m).map u8) (ys := [.int .u8 0]) (cnt := cnt) (e2 := 5) (ho.keep (by omega) fun j hj => upd_ne _ _ (hne j hj)) rfl rfl ti5 (upd_same _ _ _) rfl (by decide) (by decide) rfl
          (fun e => hne n1 e rfl) (by simp only [Nat.mul_one]; omega) (by omega) ?_
        intro v2 h2 ho2 hid2 hold2
        have ho3 : Own h2 (n1 + 1 + 1) 5 1 v2 (cnt + 1) (((dig m) ++ [UInt8.ofNat 0]).map u8) := by simpa [u8] using ho2
        have hb2 := ho3.bytes
        have hold3 : Old h h2 n := fun j hj => by rw [hold2 j (by omega) (fun e => by have := hid j e; omega), upd_ne _ _ (by omega)]; exact hold j hj
        have hj1 : 0 ≤ (((dig m).length : Nat) : Int) ∧ (((dig m).length : Nat) : Int) < ((((dig m) ++ [UInt8.ofNat 0]).length : Nat) : Int) := by rw [List.length_append]; simp; omega
        have hj3 : (dig m).length < ((dig m) ++ [UInt8.ofNat 0]).length := by simp
        have hj4 : ((dig m) ++ [UInt8.ofNat 0])[(dig m).length]'hj3 = UInt8.ofNat 0 := by rw [List.getElem_append_right (Nat.le_refl _)]; simp
        simp (disch := omega) only [core1, cont_block_any, opg_un, u8, tyr, fgr, hkr, execOp, opd, opds, opt, ofValue, ofArr, ofList, ops2, putT, put, nth, forgetL, doCall, callV_func, builtin, one1, two2, some1, foldM2, min2, max2, blr, bCopy, intB, und, sizeOf, zeroOf, lenOf, binOp, binInt, binOther, shiftB, shiftOp, intOp, wrapI, strOp, strK, intK, slK, aggK, unOp, doPick, branch, idx, readCells, cellsOf, oneOf, aggB, cel, alloc, doAlloc, newRow, nilCheck, extract, getO, ended, resultOf, oneOrTup, rowK, loopK, moved, fieldAddr, field, part, index, sameSz, equalTop, equal, nilFn, nilPtr, nilSl, boolOf, List.getElem?_cons_succ, List.getElem?_cons_zero, List.append_eq, List.cons_append, List.nil_append, List.append_nil, List.length_cons, List.length_nil, Nat.reduceAdd, Nat.reduceSub, Nat.beq, Option.bind_some, nc0, nc1, Int.cast_ofNat_Int, int_beq, int_bne, str_beq, ↓reduceIte, Int.reduceEq, Int.reduceLT, Int.reduceLE, Int.reduceNe, Int.reduceAdd, Int.reduceSub, Int.reduceMul, Int.reduceNeg, Int.reduceGT, Int.reduceGE, ge_iff_le, gt_iff_lt, not_true_eq_false, not_false_eq_true, decide_not, decide_true, decide_false, Bool.not_true, Bool.not_false, Bool.and_true, Bool.true_and, Bool.and_false, Bool.false_and, Bool.or_true, Bool.true_or, Bool.or_false, Bool.false_or, and_true, true_and, and_self, Nat.zero_add, Nat.add_zero, Int.toNat_zero, Nat.zero_mul, wp_pure, beq_self_eq_true, bne_self_eq_false, reduceCtorEq, hb2.index t22 s5, w64, Int.sub_add_cancel, hj1, Int.toNat_natCast, hb2.load ti5 rfl hj3, hj4, show IntKind.u8.wrap ((UInt8.ofNat 0).toNat + 128 : Int) = 128 from rfl]
        refine own_store ho3 (j := (dig m).length) (by omega) ti5 rfl rfl rfl ?_
        intro h3 ho4 hk4
        simp (disch := omega) only [core1, cont_block_any, opg_un, u8, tyr, fgr, hkr, execOp, opd, opds, opt, ofValue, ofArr, ofList, ops2, putT, put, nth, forgetL, doCall, callV_func, builtin, one1, two2, some1, foldM2, min2, max2, blr, bCopy, intB, und, sizeOf, zeroOf, lenOf, binOp, binInt, binOther, shiftB, shiftOp, intOp, wrapI, strOp, strK, intK, slK, aggK, unOp, doPick, branch, idx, readCells, cellsOf, oneOf, aggB, cel, alloc, doAlloc, newRow, nilCheck, extract, getO, ended, resultOf, oneOrTup, rowK, loopK, moved, fieldAddr, field, part, index, sameSz, equalTop, equal, nilFn, nilPtr, nilSl, boolOf, List.getElem?_cons_succ, List.getElem?_cons_zero, List.append_eq, List.cons_append, List.nil_append, List.append_nil, List.length_cons, List.length_nil, Nat.reduceAdd, Nat.reduceSub, Nat.beq, Option.bind_some, nc0, nc1, Int.cast_ofNat_Int, int_beq, int_bne, str_beq, ↓reduceIte, Int.reduceEq, Int.reduceLT, Int.reduceLE, Int.reduceNe, Int.reduceAdd, Int.reduceSub, Int.reduceMul, Int.reduceNeg, Int.reduceGT, Int.reduceGE, ge_iff_le, gt_iff_lt, not_true_eq_false, not_false_eq_true, decide_not, decide_true, decide_false, Bool.not_true, Bool.not_false, Bool.and_true, Bool.true_and, Bool.and_false, Bool.false_and, Bool.or_true, Bool.true_or, Bool.or_false, Bool.false_or, and_true, true_and, and_self, Nat.zero_add, Nat.add_zero, Int.toNat_zero, Nat.zero_mul, wp_pure, beq_self_eq_true, bne_self_eq_false, reduceCtorEq]
        refine ⟨cnt + 1, ?_, (fun j hj => by rw [hid2] at hj; injection hj with hj; omega), fun j hj => by rw [hk4 j (fun e => by rw [hid2] at e; injection e with e; omega)]; exact hold3 j hj⟩
        rw [fin_hi _ _ he (by omega)]
        have e : ((dig m ++ [UInt8.ofNat (sg true)]).map u8) = ((dig m ++ [UInt8.ofNat 0]).map u8).set (dig m).length (.int .u8 128) := by
          rw [List.map_append, List.map_append, List.set_append_right _ _ (by simp)]; simp [u8, sg]
        rw [e]
        exact ho4
      · simp (disch := omega) only [core1, cont_block_any, opg_un, u8, tyr, fgr, hkr, execOp, opd, opds, opt, ofValue, ofArr, ofList, ops2, putT, put, nth, forgetL, doCall, callV_func, builtin, one1, two2, some1, foldM2, min2, max2, blr, bCopy, intB, und, sizeOf, zeroOf, lenOf, binOp, binInt, binOther, shiftB, shiftOp, intOp, wrapI, strOp, strK, intK, slK, aggK, unOp, doPick, branch, idx, readCells, cellsOf, oneOf, aggB, cel, alloc, doAlloc, newRow, nilCheck, extract, getO, ended, resultOf, oneOrTup, rowK, loopK, moved, fieldAddr, field, part, index, sameSz, equalTop, equal, nilFn, nilPtr, nilSl, boolOf, List.getElem?_cons_succ, List.getElem?_cons_zero, List.append_eq, List.cons_append, List.nil_append, List.append_nil, List.length_cons, List.length_nil, Nat.reduceAdd, Nat.reduceSub, Nat.beq, Option.bind_some, nc0, nc1, Int.cast_ofNat_Int, int_beq, int_bne, str_beq, ↓reduceIte, Int.reduceEq, Int.reduceLT, Int.reduceLE, Int.reduceNe, Int.reduceAdd, Int.reduceSub, Int.reduceMul, Int.reduceNeg, Int.reduceGT, Int.reduceGE, ge_iff_le, gt_iff_lt, not_true_eq_false, not_false_eq_true, decide_not, decide_true, decide_false, Bool.not_true, Bool.not_false, Bool.and_true, Bool.true_and, Bool.and_false, Bool.false_and, Bool.or_true, Bool.true_or, Bool.or_false, Bool.false_or, and_true, true_and, and_self, Nat.zero_add, Nat.add_zero, Int.toNat_zero, Nat.zero_mul, wp_pure, beq_self_eq_true, bne_self_eq_false, reduceCtorEq, hb.bLen t22, hlen, hb.index t22 s5, w64, wu8, hi1, hi2, hb.load ti5 rfl hi3, hi4, hbig]
        refine own_store ho (j := (dig m).length - 1) (by omega) ti5 rfl rfl rfl ?_
        intro h2 ho2 hk2
        simp (disch := omega) only [core1, cont_block_any, opg_un, u8, tyr, fgr, hkr, execOp, opd, opds, opt, ofValue, ofArr, ofList, ops2, putT, put, nth, forgetL, doCall, callV_func, builtin, one1, two2, some1, foldM2, min2, max2, blr, bCopy, intB, und, sizeOf, zeroOf, lenOf, binOp, binInt, binOther, shiftB, shiftOp, intOp, wrapI, strOp, strK, intK, slK, aggK, unOp, doPick, branch, idx, readCells, cellsOf, oneOf, aggB, cel, alloc, doAlloc, newRow, nilCheck, extract, getO, ended, resultOf, oneOrTup, rowK, loopK, moved, fieldAddr, field, part, index, sameSz, equalTop, equal, nilFn, nilPtr, nilSl, boolOf, List.getElem?_cons_succ, List.getElem?_cons_zero, List.append_eq, List.cons_append, List.nil_append, List.append_nil, List.length_cons, List.length_nil, Nat.reduceAdd, Nat.reduceSub, Nat.beq, Option.bind_some, nc0, nc1, Int.cast_ofNat_Int, int_beq, int_bne, str_beq, ↓reduceIte, Int.reduceEq, Int.reduceLT, Int.reduceLE, Int.reduceNe, Int.reduceAdd, Int.reduceSub, Int.reduceMul, Int.reduceNeg, Int.reduceGT, Int.reduceGE, ge_iff_le, gt_iff_lt, not_true_eq_false, not_false_eq_true, decide_not, decide_true, decide_false, Bool.not_true, Bool.not_false, Bool.and_true, Bool.true_and, Bool.and_false, Bool.false_and, Bool.or_true, Bool.true_or, Bool.or_false, Bool.false_or, and_true, true_and, and_self, Nat.zero_add, Nat.add_zero, Int.toNat_zero, Nat.zero_mul, wp_pure, beq_self_eq_true, bne_self_eq_false, reduceCtorEq]
        refine ⟨cnt, ?_, hid, fun j hj => by rw [hk2 j (fun e => by have := hid j e; omega)]; exact hold j hj⟩
        rw [fin_lo _ _ he (by omega), ← set_last _ he, List.map_set]
        rw [show sg true = 128 from rfl, u8add _ _ (by omega)]
        exact ho2
  | false =>
    simp only [fu31, Try.f31, Option.getD_some, List.replicate, core1, cont_block_any, opg_un, u8, tyr, fgr, hkr, execOp, opd, opds, opt, ofValue, ofArr, ofList, ops2, putT, put, nth, forgetL, doCall, callV_func, builtin, one1, two2, some1, foldM2, min2, max2, blr, bCopy, intB, und, sizeOf, zeroOf, lenOf, binOp, binInt, binOther, shiftB, shiftOp, intOp, wrapI, strOp, strK, intK, slK, aggK, unOp, doPick, branch, idx, readCells, cellsOf, oneOf, aggB, cel, alloc, doAlloc, newRow, nilCheck, extract, getO, ended, resultOf, oneOrTup, rowK, loopK, moved, fieldAddr, field, part, index, sameSz, equalTop, equal, nilFn, nilPtr, nilSl, boolOf, List.getElem?_cons_succ, List.getElem?_cons_zero, List.append_eq, List.cons_append, List.nil_append, List.append_nil, List.length_cons, List.length_nil, Nat.reduceAdd, Nat.reduceSub, Nat.beq, Option.bind_some, nc0, nc1, Int.cast_ofNat_Int, int_beq, int_bne, str_beq, ↓reduceIte, Int.reduceEq, Int.reduceLT, Int.reduceLE, Int.reduceNe, Int.reduceAdd, Int.reduceSub, Int.reduceMul, Int.reduceNeg, Int.reduceGT, Int.reduceGE, ge_iff_le, gt_iff_lt, not_true_eq_false, not_false_eq_true, decide_not, decide_true, decide_false, Bool.not_true, Bool.not_false, Bool.and_true, Bool.true_and, Bool.and_false, Bool.false_and, Bool.or_true, Bool.true_or, Bool.or_false, Bool.false_or, and_true, true_and, and_self, Nat.zero_add, Nat.add_zero, Int.toNat_zero, Nat.zero_mul, wp_pure, beq_self_eq_true, bne_self_eq_false, reduceCtorEq, hz1, hz2, sv]
    refine loop31 _ _ n _ m [] 0 .nils h n _ _ _ _ _ _ _ (by omega) (Nat.le_refl _) .nil (fun j hj => by cases hj) (by omega) ?_
    intro v h1 n1 cnt x2 x5 x8 x12 x23 x31 x37 hn1 ho hid hold
    have hl := lenOwn ho
    simp only [List.nil_append] at ho hl
    have hb := ho.bytes
    by_cases he : dig m = []
    · have hlen : (((dig m).length : Nat) : Int) = 0 := by rw [he]; rfl
      simp (disch := omega) only [core1, cont_block_any, opg_un, u8, tyr, fgr, hkr, execOp, opd, opds, opt, ofValue, ofArr, ofList, ops2, putT, put, nth, forgetL, doCall, callV_func, builtin, one1, two2, some1, foldM2, min2, max2, blr, bCopy, intB, und, sizeOf, zeroOf, lenOf, binOp, binInt, binOther, shiftB, shiftOp, intOp, wrapI, strOp, strK, intK, slK, aggK, unOp, doPick, branch, idx, readCells, cellsOf, oneOf, aggB, cel, alloc, doAlloc, newRow, nilCheck, extract, getO, ended, resultOf, oneOrTup, rowK, loopK, moved, fieldAddr, field, part, index, sameSz, equalTop, equal, nilFn, nilPtr, nilSl, boolOf, List.getElem?_cons_succ, List.getElem?_cons_zero, List.append_eq, List.cons_append, List.nil_append, List.append_nil, List.length_cons, List.length_nil, Nat.reduceAdd, Nat.reduceSub, Nat.beq, Option.bind_some, nc0, nc1, Int.cast_ofNat_Int, int_beq, int_bne, str_beq, ↓reduceIte, Int.reduceEq, Int.reduceLT, Int.reduceLE, Int.reduceNe, Int.reduceAdd, Int.reduceSub, Int.reduceMul, Int.reduceNeg, Int.reduceGT, Int.reduceGE, ge_iff_le, gt_iff_lt, not_true_eq_false, not_false_eq_true, decide_not, decide_true, decide_false, Bool.not_true, Bool.not_false, Bool.and_true, Bool.true_and, Bool.and_false, Bool.false_and, Bool.or_true, Bool.true_or, Bool.or_false, Bool.false_or, and_true, true_and, and_self, Nat.zero_add, Nat.add_zero, Int.toNat_zero, Nat.zero_mul, wp_pure, beq_self_eq_true, bne_self_eq_false, reduceCtorEq, hb.bLen t22, hlen]
      refine ⟨0, ?_, (fun j hj => by cases hj), hold⟩
      rw [he, fin_nil]; exact .nil
    · have hpos := List.length_pos_iff.2 he
      have hlen : ¬ (((dig m).length : Nat) : Int) = 0 := by omega
      have hi1 : 0 ≤ (((dig m).length : Nat) : Int) - 1 ∧ (((dig m).length : Nat) : Int) - 1 < (((dig m).length : Nat) : Int) := by omega
      have hi2 : ((((dig m).length : Nat) : Int) - 1).toNat = (dig m).length - 1 := by omega
      have hi3 : (dig m).length - 1 < (dig m).length := by omega
      have hi4 := last_eq (dig m) he hi3
      have hi5 := ((dig m).getLast he).toNat_lt
      by_cases hbig : 128 ≤ (((dig m).getLast he).toNat : Int)
      · have hcc : cnt ≤ 8 := by omega
        simp (disch := omega) only [core1, cont_block_any, opg_un, u8, tyr, fgr, hkr, execOp, opd, opds, opt, ofValue, ofArr, ofList, ops2, putT, put, nth, forgetL, doCall, callV_func, builtin, one1, two2, some1, foldM2, min2, max2, blr, bCopy, intB, und, sizeOf, zeroOf, lenOf, binOp, binInt, binOther, shiftB, shiftOp, intOp, wrapI, strOp, strK, intK, slK, aggK, unOp, doPick, branch, idx, readCells, cellsOf, oneOf, aggB, cel, alloc, doAlloc, newRow, nilCheck, extract, getO, ended, resultOf, oneOrTup, rowK, loopK, moved, fieldAddr, field, part, index, sameSz, equalTop, equal, nilFn, nilPtr, nilSl, boolOf, List.getElem?_cons_succ, List.getElem?_cons_zero, List.append_eq, List.cons_append, List.nil_append, List.append_nil, List.length_cons, List.length_nil, Nat.reduceAdd, Nat.reduceSub, Nat.beq, Option.bind_some, nc0, nc1, Int.cast_ofNat_Int, int_beq, int_bne, str_beq, ↓reduceIte, Int.reduceEq, Int.reduceLT, Int.reduceLE, Int.reduceNe, Int.reduceAdd, Int.reduceSub, Int.reduceMul, Int.reduceNeg, Int.reduceGT, Int.reduceGE, ge_iff_le, gt_iff_lt, not_true_eq_false, not_false_eq_true, decide_not, decide_true, decide_false, Bool.not_true, Bool.not_false, Bool.and_true, Bool.true_and, Bool.and_false, Bool.false_and, Bool.or_true, Bool.true_or, Bool.or_false, Bool.false_or, and_true, true_and, and_self, Nat.zero_add, Nat.add_zero, Int.toNat_zero, Nat.zero_mul, wp_pure, beq_self_eq_true, bne_self_eq_false, reduceCtorEq, buildSlice, reps, fill, List.take_succ_cons, List.take_zero, List.drop_succ_cons, List.drop_zero, Nat.mul_one, Nat.reduceMul, Nat.ble, opv_new, hb.bLen t22, hlen, hb.index t22 s5, w64, hi1, hi2, hb.load ti5 rfl hi3, hi4, hbig]
        have hne : ∀ j, ownId v = some j → j ≠ n1 := fun j hj => by have := ho.id_lt hj; omega
        refine own_append (i := ⟨.int .u8, 1, 1, .int .u8 0⟩) (e := 5) (xs := (dig m).map u8) (ys := [.int .u8 0]) (cnt := cnt) (e2 := 5) (ho.keep (by omega) fun j hj => upd_ne _ _ (hne j hj)) rfl rfl ti5 (upd_same _ _ _) rfl (by decide) (by decide) rfl
          (fun e => hne n1 e rfl) (by simp only [Nat.mul_one]; omega) (by omega) ?_
        intro v2 h2 ho2 hid2 hold2
        have ho3 : Own h2 (n1 + 1 + 1) 5 1 v2 (cnt + 1) (((dig m) ++ [UInt8.ofNat 0]).map u8) := by simpa [u8] using ho2
        have hb2 := ho3.bytes
        have hold3 : Old h h2 n := fun j hj => by rw [hold2 j (by omega) (fun e => by have := hid j e; omega), upd_ne _ _ (by omega)]; exact hold j hj
        simp (disch := omega) only [core1, cont_block_any, opg_un, u8, tyr, fgr, hkr, execOp, opd, opds, opt, ofValue, ofArr, ofList, ops2, putT, put, nth, forgetL, doCall, callV_func, builtin, one1, two2, some1, foldM2, min2, max2, blr, bCopy, intB, und, sizeOf, zeroOf, lenOf, binOp, binInt, binOther, shiftB, shiftOp, intOp, wrapI, strOp, strK, intK, slK, aggK, unOp, doPick, branch, idx, readCells, cellsOf, oneOf, aggB, cel, alloc, doAlloc, newRow, nilCheck, extract, getO, ended, resultOf, oneOrTup, rowK, loopK, moved, fieldAddr, field, part, index, sameSz, equalTop, equal, nilFn, nilPtr, nilSl, boolOf, List.getElem?_cons_succ, List.getElem?_cons_zero, List.append_eq, List.cons_append, List.nil_append, List.append_nil, List.length_cons, List.length_nil, Nat.reduceAdd, Nat.reduceSub, Nat.beq, Option.bind_some, nc0, nc1, Int.cast_ofNat_Int, int_beq, int_bne, str_beq, ↓reduceIte, Int.reduceEq, Int.reduceLT, Int.reduceLE, Int.reduceNe, Int.reduceAdd, Int.reduceSub, Int.reduceMul, Int.reduceNeg, Int.reduceGT, Int.reduceGE, ge_iff_le, gt_iff_lt, not_true_eq_false, not_false_eq_true, decide_not, decide_true, decide_false, Bool.not_true, Bool.not_false, Bool.and_true, Bool.true_and, Bool.and_false, Bool.false_and, Bool.or_true, Bool.true_or, Bool.or_false, Bool.false_or, and_true, true_and, and_self, Nat.zero_add, Nat.add_zero, Int.toNat_zero, Nat.zero_mul, wp_pure, beq_self_eq_true, bne_self_eq_false, reduceCtorEq]
        refine ⟨cnt + 1, ?_, (fun j hj => by rw [hid2] at hj; injection hj with hj; omega), hold3⟩
        rw [fin_hi _ _ he (by omega)]
        exact ho3
      · simp (disch := omega) only [core1, cont_block_any, opg_un, u8, tyr, fgr, hkr, execOp, opd, opds, opt, ofValue, ofArr, ofList, ops2, putT, put, nth, forgetL, doCall, callV_func, builtin, one1, two2, some1, foldM2, min2, max2, blr, bCopy, intB, und, sizeOf, zeroOf, lenOf, binOp, binInt, binOther, shiftB, shiftOp, intOp, wrapI, strOp, strK, intK, slK, aggK, unOp, doPick, branch, idx, readCells, cellsOf, oneOf, aggB, cel, alloc, doAlloc, newRow, nilCheck, extract, getO, ended, resultOf, oneOrTup, rowK, loopK, moved, fieldAddr, field, part, index, sameSz, equalTop, equal, nilFn, nilPtr, nilSl, boolOf, List.getElem?_cons_succ, List.getElem?_cons_zero, List.append_eq, List.cons_append, List.nil_append, List.append_nil, List.length_cons, List.length_nil, Nat.reduceAdd, Nat.reduceSub, Nat.beq, Option.bind_some, nc0, nc1, Int.cast_ofNat_Int, int_beq, int_bne, str_beq, ↓reduceIte, Int.reduceEq, Int.reduceLT, Int.reduceLE, Int.reduceNe, Int.reduceAdd, Int.reduceSub, Int.reduceMul, Int.reduceNeg, Int.reduceGT, Int.reduceGE, ge_iff_le, gt_iff_lt, not_true_eq_false, not_false_eq_true, decide_not, decide_true, decide_false, Bool.not_true, Bool.not_false, Bool.and_true, Bool.true_and, Bool.and_false, Bool.false_and, Bool.or_true, Bool.true_or, Bool.or_false, Bool.false_or, and_true, true_and, and_self, Nat.zero_add, Nat.add_zero, Int.toNat_zero, Nat.zero_mul, wp_pure, beq_self_eq_true, bne_self_eq_false, reduceCtorEq, hb.bLen t22, hlen, hb.index t22 s5, w64, wu8, hi1, hi2, hb.load ti5 rfl hi3, hi4, hbig]
        refine ⟨cnt, ?_, hid, hold⟩
        rw [fin_lo _ _ he (by omega), show sg false = 0 from rfl, Nat.add_zero, UInt8.ofNat_toNat, List.dropLast_concat_getLast]
        exact ho
end Go.Am.Ytfomdaajpembmaa
