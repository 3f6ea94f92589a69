/- The functions that the statement reaches, gone through. -/
import Derived.Test.YtmoplhbncjicbaaSkCoA
set_option linter.unusedSimpArgs false
set_option linter.unusedVariables false
set_option linter.defProp false
set_option maxRecDepth 10000
namespace Go.Am.Ytmoplhbncjicbaa
open Go Go.Am Go.Proofs
theorem f28 (h : Hp) (n : Nat) (c a b : Int) : Wp (callI env (evalW env) 28 [.int .u8 c, .int .i64 a, .int .i64 b]) h n fun v' h' n' => v' = .tup [.int .i64 (twoR c a b).1, .int .i64 (twoR c a b).2] ∧ h' = h ∧ n' = n := by
  refine wp_callI ff28 fi28 ?_
  by_cases hc : isTwo c
  · unfold twoR twoV
    by_cases ha : may a = true
    · by_cases hb : may b = true
      · have ha1 := may_t ha
        have hb1 := may_t hb
        have hc' := hc
        unfold isTwo at hc'
        rcases hc' with rfl | rfl | rfl | rfl | rfl | rfl | rfl | rfl | rfl | rfl | rfl | rfl | rfl
        · simp (disch := first | omega | exact NB _ rfl _) only [fu28, Try.f28, Option.getD_some, List.replicate, core1, fgr, hkr, execOp, opd, opds, ofValue, putT, put, nth, forgetL, doCall, callV_func, bor, binInt, shiftB, intOp, wrapI, unOp, doPick, branch, ended, resultOf, oneOrTup, List.getElem?_cons_succ, List.getElem?_cons_zero, List.append_eq, List.cons_append, List.nil_append, List.append_nil, List.length_cons, List.length_nil, Nat.reduceAdd, Nat.reduceSub, int_bne, ↓reduceIte, not_true_eq_false, decide_true, decide_false, Bool.not_true, and_self, Nat.zero_add, wp_pure, beq_self_eq_true, c32, c61, ari2, *, w64]
        · simp (disch := first | omega | exact NB _ rfl _) only [fu28, Try.f28, Option.getD_some, List.replicate, core1, fgr, hkr, execOp, opd, opds, ofValue, putT, put, nth, forgetL, doCall, callV_func, bor, binInt, shiftB, intOp, wrapI, unOp, doPick, branch, ended, resultOf, oneOrTup, List.getElem?_cons_succ, List.getElem?_cons_zero, List.append_eq, List.cons_append, List.nil_append, List.append_nil, List.length_cons, List.length_nil, Nat.reduceAdd, Nat.reduceSub, int_beq, int_bne, ↓reduceIte, Int.reduceEq, not_true_eq_false, decide_true, decide_false, Bool.not_true, and_self, Nat.zero_add, wp_pure, beq_self_eq_true, c32, c61, ari2, *, w64]
        · cases e3 : decide (a = 0) <;> cases e4 : decide (b = 0) <;> simp (disch := first | omega | exact NB _ rfl _) only [fu28, Try.f28, Option.getD_some, List.replicate, core1, fgr, hkr, execOp, opd, opds, ofValue, putT, put, nth, forgetL, doCall, callV_func, bor, binInt, shiftB, intOp, unOp, doPick, branch, ended, resultOf, oneOrTup, List.getElem?_cons_succ, List.getElem?_cons_zero, List.append_eq, List.cons_append, List.nil_append, List.append_nil, List.length_cons, List.length_nil, Nat.reduceAdd, Nat.reduceSub, int_beq, int_bne, ↓reduceIte, Int.reduceEq, not_true_eq_false, decide_not, decide_true, decide_false, Bool.not_true, Bool.not_false, Bool.and_true, Bool.and_false, and_self, Nat.zero_add, wp_pure, beq_self_eq_true, c32, c61, c58, ari2, *]
        · cases e3 : decide (a = 0) <;> cases e4 : decide (b = 0) <;> simp (disch := first | omega | exact NB _ rfl _) only [fu28, Try.f28, Option.getD_some, List.replicate, core1, fgr, hkr, execOp, opd, opds, ofValue, putT, put, nth, forgetL, doCall, callV_func, bor, binInt, shiftB, intOp, unOp, doPick, branch, ended, resultOf, oneOrTup, List.getElem?_cons_succ, List.getElem?_cons_zero, List.append_eq, List.cons_append, List.nil_append, List.append_nil, List.length_cons, List.length_nil, Nat.reduceAdd, Nat.reduceSub, int_beq, int_bne, ↓reduceIte, Int.reduceEq, not_true_eq_false, decide_not, decide_true, decide_false, Bool.not_true, Bool.not_false, Bool.or_true, Bool.or_false, and_self, Nat.zero_add, wp_pure, beq_self_eq_true, c32, c61, c58, ari2, *]
        · simp (disch := first | omega | exact NB _ rfl _) only [fu28, Try.f28, Option.getD_some, List.replicate, core1, fgr, hkr, execOp, opd, opds, ofValue, putT, put, nth, forgetL, doCall, callV_func, bor, binInt, shiftB, intOp, unOp, doPick, branch, ended, resultOf, oneOrTup, List.getElem?_cons_succ, List.getElem?_cons_zero, List.append_eq, List.cons_append, List.nil_append, List.append_nil, List.length_cons, List.length_nil, Nat.reduceAdd, Nat.reduceSub, int_beq, int_bne, ↓reduceIte, Int.reduceEq, not_true_eq_false, decide_true, decide_false, Bool.not_true, and_self, Nat.zero_add, wp_pure, beq_self_eq_true, c32, c61, c58, ari2, *]
        · simp (disch := first | omega | exact NB _ rfl _) only [fu28, Try.f28, Option.getD_some, List.replicate, core1, fgr, hkr, execOp, opd, opds, ofValue, putT, put, nth, forgetL, doCall, callV_func, bor, binInt, shiftB, intOp, unOp, doPick, branch, ended, resultOf, oneOrTup, List.getElem?_cons_succ, List.getElem?_cons_zero, List.append_eq, List.cons_append, List.nil_append, List.append_nil, List.length_cons, List.length_nil, Nat.reduceAdd, Nat.reduceSub, int_beq, int_bne, ↓reduceIte, Int.reduceEq, not_true_eq_false, decide_true, decide_false, Bool.not_true, and_self, Nat.zero_add, wp_pure, beq_self_eq_true, c32, c61, c58, ari2, *]
        · simp (disch := first | omega | exact NB _ rfl _) only [fu28, Try.f28, Option.getD_some, List.replicate, core1, fgr, hkr, execOp, opd, opds, ofValue, putT, put, nth, forgetL, doCall, callV_func, bor, binInt, shiftB, intOp, unOp, doPick, branch, ended, resultOf, oneOrTup, List.getElem?_cons_succ, List.getElem?_cons_zero, List.append_eq, List.cons_append, List.nil_append, List.append_nil, List.length_cons, List.length_nil, Nat.reduceAdd, Nat.reduceSub, int_beq, int_bne, ↓reduceIte, Int.reduceEq, not_true_eq_false, decide_not, decide_true, decide_false, Bool.not_true, and_self, Nat.zero_add, wp_pure, beq_self_eq_true, c32, c61, c58, ari2, *]
        · simp (disch := first | omega | exact NB _ rfl _) only [fu28, Try.f28, Option.getD_some, List.replicate, core1, fgr, hkr, execOp, opd, opds, ofValue, putT, put, nth, forgetL, doCall, callV_func, bor, binInt, shiftB, intOp, unOp, doPick, branch, ended, resultOf, oneOrTup, List.getElem?_cons_succ, List.getElem?_cons_zero, List.append_eq, List.cons_append, List.nil_append, List.append_nil, List.length_cons, List.length_nil, Nat.reduceAdd, Nat.reduceSub, int_beq, int_bne, ↓reduceIte, Int.reduceEq, not_true_eq_false, decide_true, decide_false, Bool.not_true, and_self, Nat.zero_add, wp_pure, beq_self_eq_true, c32, c61, c58, ari2, *]
        · simp (disch := first | omega | exact NB _ rfl _) only [fu28, Try.f28, Option.getD_some, List.replicate, core1, fgr, hkr, execOp, opd, opds, ofValue, putT, put, nth, forgetL, doCall, callV_func, bor, binInt, shiftB, intOp, unOp, doPick, branch, ended, resultOf, oneOrTup, List.getElem?_cons_succ, List.getElem?_cons_zero, List.append_eq, List.cons_append, List.nil_append, List.append_nil, List.length_cons, List.length_nil, Nat.reduceAdd, Nat.reduceSub, int_beq, int_bne, ↓reduceIte, Int.reduceEq, gt_iff_lt, not_true_eq_false, decide_true, decide_false, Bool.not_true, and_self, Nat.zero_add, wp_pure, beq_self_eq_true, c32, c61, c58, ari2, *]
        · simp (disch := first | omega | exact NB _ rfl _) only [fu28, Try.f28, Option.getD_some, List.replicate, core1, fgr, hkr, execOp, opd, opds, ofValue, putT, put, nth, forgetL, doCall, callV_func, bor, binInt, shiftB, intOp, unOp, doPick, branch, ended, resultOf, oneOrTup, List.getElem?_cons_succ, List.getElem?_cons_zero, List.append_eq, List.cons_append, List.nil_append, List.append_nil, List.length_cons, List.length_nil, Nat.reduceAdd, Nat.reduceSub, int_beq, int_bne, ↓reduceIte, Int.reduceEq, not_true_eq_false, decide_true, decide_false, Bool.not_true, and_self, Nat.zero_add, wp_pure, beq_self_eq_true, c32, c61, c58, ari2, *]
        · simp (disch := first | omega | exact NB _ rfl _) only [fu28, Try.f28, Option.getD_some, List.replicate, core1, fgr, hkr, execOp, opd, opds, ofValue, putT, put, nth, forgetL, doCall, callV_func, bor, binInt, shiftB, intOp, unOp, doPick, branch, ended, resultOf, oneOrTup, List.getElem?_cons_succ, List.getElem?_cons_zero, List.append_eq, List.cons_append, List.nil_append, List.append_nil, List.length_cons, List.length_nil, Nat.reduceAdd, Nat.reduceSub, int_beq, int_bne, ↓reduceIte, Int.reduceEq, ge_iff_le, not_true_eq_false, decide_true, decide_false, Bool.not_true, and_self, Nat.zero_add, wp_pure, beq_self_eq_true, c32, c61, c58, ari2, *]
        · by_cases e1 : b < a <;> by_cases e2 : a < b <;> simp (disch := first | omega | exact NB _ rfl _) only [fu28, Try.f28, Option.getD_some, List.replicate, core1, fgr, hkr, execOp, opd, opds, ofValue, putT, put, nth, forgetL, doCall, callV_func, bor, binInt, shiftB, intOp, unOp, doPick, branch, ended, resultOf, oneOrTup, List.getElem?_cons_succ, List.getElem?_cons_zero, List.append_eq, List.cons_append, List.nil_append, List.append_nil, List.length_cons, List.length_nil, Nat.reduceAdd, Nat.reduceSub, int_beq, int_bne, ↓reduceIte, Int.reduceEq, not_true_eq_false, decide_true, decide_false, Bool.not_true, and_true, true_and, and_self, Nat.zero_add, wp_pure, beq_self_eq_true, c32, c61, ari2, *]
          all_goals (have : a = b := by omega); simp only [this]
        · by_cases e1 : b < a <;> by_cases e2 : a < b <;> simp (disch := first | omega | exact NB _ rfl _) only [fu28, Try.f28, Option.getD_some, List.replicate, core1, fgr, hkr, execOp, opd, opds, ofValue, putT, put, nth, forgetL, doCall, callV_func, bor, binInt, shiftB, intOp, unOp, doPick, branch, ended, resultOf, oneOrTup, List.getElem?_cons_succ, List.getElem?_cons_zero, List.append_eq, List.cons_append, List.nil_append, List.append_nil, List.length_cons, List.length_nil, Nat.reduceAdd, Nat.reduceSub, int_beq, int_bne, ↓reduceIte, Int.reduceEq, gt_iff_lt, not_true_eq_false, decide_true, decide_false, Bool.not_true, and_true, true_and, and_self, Nat.zero_add, wp_pure, c32, c61, ari2, *]
          all_goals (have : a = b := by omega); simp only [this]
      · rw [Bool.not_eq_true] at hb
        simp only [fu28, Try.f28, Option.getD_some, List.replicate, core1, fgr, hkr, execOp, opd, opds, ofValue, putT, put, nth, forgetL, doCall, callV_func, bor, binInt, shiftB, intOp, unOp, doPick, branch, ended, resultOf, oneOrTup, List.getElem?_cons_succ, List.getElem?_cons_zero, List.append_eq, List.cons_append, List.nil_append, List.append_nil, List.length_cons, List.length_nil, Nat.reduceAdd, Nat.reduceSub, int_bne, ↓reduceIte, not_true_eq_false, decide_true, decide_false, Bool.not_true, Bool.not_false, and_self, Nat.zero_add, wp_pure, c32, c61, ari2, *, Bool.false_eq_true]
    · rw [Bool.not_eq_true] at ha
      simp only [fu28, Try.f28, Option.getD_some, List.replicate, core1, fgr, hkr, execOp, opd, opds, ofValue, putT, put, nth, forgetL, doCall, callV_func, bor, binInt, shiftB, intOp, unOp, doPick, branch, ended, resultOf, oneOrTup, List.getElem?_cons_succ, List.getElem?_cons_zero, List.append_eq, List.cons_append, List.nil_append, List.append_nil, List.length_cons, List.length_nil, Nat.reduceAdd, Nat.reduceSub, int_bne, ↓reduceIte, not_true_eq_false, decide_true, decide_false, Bool.not_false, and_self, Nat.zero_add, wp_pure, c32, c61, ari2, *, Bool.false_eq_true]
  · unfold twoR
    simp only [fu28, Try.f28, Option.getD_some, List.replicate, core1, fgr, hkr, execOp, opd, opds, ofValue, putT, put, nth, forgetL, doCall, callV_func, bor, binInt, shiftB, intOp, ended, resultOf, oneOrTup, List.append_eq, List.cons_append, List.nil_append, List.append_nil, List.length_cons, List.length_nil, Nat.reduceAdd, Nat.reduceSub, int_bne, ↓reduceIte, not_false_eq_true, decide_true, and_self, Nat.zero_add, wp_pure, c32, ari2, *]
def c28 (h : Hp) (n : Nat) (c a b : Int) := opv_det (f28 h n c a b)
theorem f29 (h : Hp) (n : Nat) (x a b : Int) : Wp (callI env (evalW env) 29 [.int .i64 x, .int .i64 a, .int .i64 b]) h n fun v' h' n' => v' = .bool (decide (a ≤ x) && decide (x < b)) ∧ h' = h ∧ n' = n := by
  refine wp_callI ff29 fi29 ?_
  by_cases e1 : a ≤ x <;> simp only [fu29, Try.f29, Option.getD_some, List.replicate, core1, fgr, execOp, opd, ofValue, putT, put, nth, forgetL, bor, binInt, shiftB, intOp, doPick, branch, ended, resultOf, oneOrTup, List.getElem?_cons_succ, List.getElem?_cons_zero, List.cons_append, List.nil_append, List.length_cons, List.length_nil, Nat.reduceAdd, Nat.reduceSub, ge_iff_le, decide_true, decide_false, Bool.true_and, Bool.false_and, and_self, Nat.zero_add, wp_pure, *]
def c29 (h : Hp) (n : Nat) (x a b : Int) := opv_det (f29 h n x a b)
theorem f30 (h : Hp) (n : Nat) (x a b : Int) : Wp (callI env (evalW env) 30 [.int .i64 x, .int .i64 a, .int .i64 b]) h n fun v' h' n' => v' = .bool (decide (a ≤ x) && decide (x < b)) ∧ h' = h ∧ n' = n := by
  refine wp_callI ff30 fi30 ?_
  by_cases e1 : a ≤ x <;> simp only [fu30, Try.f30, Option.getD_some, List.replicate, core1, fgr, execOp, opd, ofValue, putT, put, nth, forgetL, bor, binInt, shiftB, intOp, doPick, branch, ended, resultOf, oneOrTup, List.getElem?_cons_succ, List.getElem?_cons_zero, List.cons_append, List.nil_append, List.length_cons, List.length_nil, Nat.reduceAdd, Nat.reduceSub, decide_true, decide_false, Bool.true_and, Bool.false_and, and_self, Nat.zero_add, wp_pure, *]
def c30 (h : Hp) (n : Nat) (x a b : Int) := opv_det (f30 h n x a b)
theorem f5 (h : Hp) (n : Nat) (c a b d : Int) : Wp (callI env (evalW env) 5 [.int .u8 c, .int .i64 a, .int .i64 b, .int .i64 d]) h n fun v' h' n' => v' = .bool true ∧ h' = h ∧ n' = n := by
  refine wp_callI ff5 fi5 ?_
  simp only [fu5, Try.f5, Option.getD_some, List.replicate, core1, tyr, fgr, hkr, execOp, opd, opds, ofValue, putT, put, nth, forgetL, doCall, callV_func, und, bor, binInt, binOther, shiftB, intOp, strK, aggK, doPick, branch, extract, getO, ended, resultOf, oneOrTup, equalTop, equal, nilFn, nilPtr, boolOf, List.getElem?_cons_succ, List.getElem?_cons_zero, List.append_eq, List.cons_append, List.nil_append, List.append_nil, List.length_cons, List.length_nil, Nat.reduceAdd, Nat.reduceSub, decide_true, and_self, Nat.zero_add, wp_pure, beq_self_eq_true, c25, c26, c27, c28, c29, c30, c31, c32]
def c5 (h : Hp) (n : Nat) (c a b d : Int) := opv_det (f5 h n c a b d)
/-- Digits by 256, the lowest first. -/
def dig (m : Nat) : List UInt8 := if h : m = 0 then [] else UInt8.ofNat (m % 256) :: dig (m / 256)
termination_by m
decreasing_by exact Nat.div_lt_self (Nat.pos_of_ne_zero h) (by decide)
theorem dig_zero : dig 0 = [] := by rw [dig]; simp
theorem dig_pos {m : Nat} (h : 0 < m) : dig m = UInt8.ofNat (m % 256) :: dig (m / 256) := by rw [dig]; simp [Nat.ne_of_gt h]
theorem dig_len : ∀ (k m : Nat), m < 256 ^ k → (dig m).length ≤ k := by
  intro k
  induction k with
  | zero => intro m h; have : m = 0 := by simpa using h
            subst this; simp [dig_zero]
  | succ k ih =>
    intro m h
    by_cases hm : m = 0
    · subst hm; simp [dig_zero]
    · rw [dig_pos (Nat.pos_of_ne_zero hm)]
      simp only [List.length_cons]
      have := ih (m / 256) (by rw [Nat.div_lt_iff_lt_mul (by decide)]; rw [Nat.pow_succ] at h; exact h)
      omega
theorem u8_ofNat (m : Nat) : u8 (UInt8.ofNat m) = .int .u8 ((m % 256 : Nat) : Int) := by simp [u8]
theorem wrap_u8 (z : Int) (h : 0 ≤ z) : IntKind.u8.wrap z = ((z.toNat % 256 : Nat) : Int) := by rw [IntKind.wrap_u8]; omega
/-- The sign is laid into the last byte, or behind it. -/
def fin (s : Nat) (l : List UInt8) : List UInt8 :=
  match l.getLast? with
  | none => []
  | some b => if 128 ≤ b.toNat then l ++ [UInt8.ofNat s] else l.dropLast ++ [UInt8.ofNat (b.toNat + s)]
def sgn (x : Int) : Nat := if x < 0 then 128 else 0
def fmB (x : Int) : List UInt8 := fin (sgn x) (dig x.natAbs)
theorem fin_nil (s : Nat) : fin s [] = [] := rfl
theorem fin_hi (s : Nat) (l : List UInt8) (hl : l ≠ []) (hb : 128 ≤ (l.getLast hl).toNat) : fin s l = l ++ [UInt8.ofNat s] := by
  unfold fin
  rw [List.getLast?_eq_some_getLast hl]
  simp only [hb, ↓reduceIte]
theorem fin_lo (s : Nat) (l : List UInt8) (hl : l ≠ []) (hb : ¬ 128 ≤ (l.getLast hl).toNat) : fin s l = l.dropLast ++ [UInt8.ofNat ((l.getLast hl).toNat + s)] := by
  unfold fin
  rw [List.getLast?_eq_some_getLast hl]
  simp only [hb, ↓reduceIte]
theorem t22 : und env 22 = M.pure (.slice 5) := rfl
theorem s5 : sizeOf env 5 = M.pure 1 := rfl
def sg (neg : Bool) : Nat := match neg with | true => 128 | false => 0
def sv (neg : Bool) (m : Nat) : Int := match neg with | true => -(m : Int) | false => m
/- A number's bytes: the program's. -/
theorem f80 (x : Int) (h : Hp) (n : Nat) : Wp (callI env (evalW env) 80 [.int .u64 x]) h n fun v' h' n' => v' = .fn (.func 105) [] [.ptr n 0] ∧ h' = upd h n (some (.row (.l [.int .u64 x]) 110)) ∧ n' = n + 1 := by
  refine wp_callI ff80 fi80 ?_
  simp only [fu80, Try.f80, Option.getD_some, List.replicate, core1, tyr, fgr, execOp, opd, opds, ofValue, putT, put, nth, forgetL, cel, alloc, newRow, ended, resultOf, oneOrTup, List.cons_append, List.nil_append, List.length_cons, List.length_nil, Nat.reduceSub, and_self, Nat.zero_add, wp_pure]
def c80 (x : Int) (h : Hp) (n : Nat) := opv_det (f80 x h n)
theorem and128 : ∀ a : Nat, a < 256 → IntKind.u8.wrap (((BitVec.ofInt IntKind.u8.bits (a : Int)) &&& (BitVec.ofInt IntKind.u8.bits 128)).toNat : Int) = if 128 ≤ a then 128 else 0 := by decide +kernel
theorem or128 : ∀ a : Nat, a < 128 → ∀ neg : Bool, IntKind.u8.wrap (((BitVec.ofInt IntKind.u8.bits (a : Int)) ||| (BitVec.ofInt IntKind.u8.bits ((sg neg : Nat) : Int))).toNat : Int) = ((a + sg neg : Nat) : Int) := by decide +kernel
theorem fd256 (m : Nat) : ((m : Int)).fdiv (2 ^ (min 8 IntKind.u64.bits)) = ((m / 256 : Nat) : Int) := by
  have : (2 : Int) ^ (min 8 IntKind.u64.bits) = 256 := by decide
  rw [this, Int.fdiv_eq_ediv_of_nonneg _ (by decide)]; omega
theorem fin_cons (s : Nat) (b c : UInt8) (l : List UInt8) : fin s (b :: c :: l) = b :: fin s (c :: l) := by
  have h1 : (c :: l) ≠ [] := by simp
  have h2 : (b :: c :: l) ≠ [] := by simp
  have h3 : (b :: c :: l).getLast h2 = (c :: l).getLast h1 := by rw [List.getLast_cons h1]
  by_cases hb : 128 ≤ ((c :: l).getLast h1).toNat
  · rw [fin_hi _ _ h1 hb, fin_hi _ _ h2 (by rw [h3]; exact hb)]; rfl
  · rw [fin_lo _ _ h1 hb, fin_lo _ _ h2 (by rw [h3]; exact hb), h3]; rfl
noncomputable def L29 (tm : List AVal) : ALoop := { state := .ready, pending := none, fn := 54, tmps := tm, params := [12, 13], assign := ra54_0, body := rb54_0 }
theorem loop105 (Q : Post0) (ks : List Kf) (N c3 c4 b id : Nat) (neg : Bool) (x0 x2 x5 x6 x8 x11 x12 x13 x15 x22 : AVal) (hd : c3 ≠ c4 ∧ c3 ≠ b ∧ c3 ≠ id ∧ c4 ≠ b ∧ c4 ≠ id ∧ b ≠ id) (hN : N ≤ c3 ∧ N ≤ c4 ∧ N ≤ b ∧ N ≤ id) :
    ∀ (m : Nat) (acc : List UInt8) (cnt : Nat) (v : AVal) (h : Hp) (n : Nat) (z2 z3 z4 z5 z6 z7 z8 z9 z10 z11 z12 z13 z14 z15 : AVal), m < 18446744073709551616 → c3 < n ∧ c4 < n ∧ b < n ∧ id < n →
    h c3 = some (.row (.l [v]) 22) → h c4 = some (.row (.l [.int .u8 ((sg neg : Nat) : Int)]) 5) → h b = some (.row (.l [.int .u64 (m : Nat)]) 110) → h id = some (.loop (L29 (x0 :: AVal.junk :: x2 :: .ptr c3 0 :: .ptr c4 0 :: x5 :: x6 :: AVal.junk :: x8 :: AVal.junk :: AVal.junk :: x11 :: x12 :: x13 :: AVal.junk :: x15 :: AVal.junk :: AVal.junk :: AVal.junk :: AVal.junk :: AVal.junk :: AVal.junk :: x22 :: AVal.junk :: AVal.junk :: AVal.junk :: AVal.junk :: AVal.junk :: AVal.junk :: AVal.junk :: AVal.junk :: AVal.junk :: AVal.junk :: AVal.junk :: AVal.junk :: []))) →
    Own h n 5 1 v cnt (acc.map u8) → (∀ j, ownId v = some j → N ≤ j ∧ j ≠ c3 ∧ j ≠ c4 ∧ j ≠ b ∧ j ≠ id) → cnt + (dig m).length ≤ 1000000 →
    (∀ v' h' n' cnt' e tm' l, (e = .exit 0 ∧ l.state = .ready ∧ l.pending = none ∨ e = .ret ∧ l.state = .done ∧ l.pending = some (.exit 0)) → h' id = some (.loop l) → h' c3 = some (.row (.l [v']) 22) → c3 < n' →
       Own h' n' 5 1 v' cnt' ((acc ++ fin (sg neg) (dig m)).map u8) → (∀ j, ownId v' = some j → N ≤ j ∧ j ≠ id) → Old h h' N → Kont env 105 none Q ks e tm' h' n') →
    Run env 105 none Q (.loop lp105_0) ks [.fn (.yield id) [] [], .ptr b 0, z2, z3, z4, z5, z6, z7, z8, z9, z10, z11, z12, z13, z14, z15] h n := by
  intro m
  induction m using Nat.strongRecOn with
  | _ m ih =>
    intro acc cnt v h n z2 z3 z4 z5 z6 z7 z8 z9 z10 z11 z12 z13 z14 z15 hm hn h3 h4 hb hi ho hid hbd hq
    rw [run_loop]
    by_cases h0 : m = 0
    · subst h0
      simp only [lp105_0, loopsOf, Try.f105, Option.getD_some, core1, tyr, fgr, execOp, opd, ofValue, putT, put, nth, forgetL, bor, binInt, shiftB, intOp, readCells, cellsOf, oneOf, aggB, rowK, List.append_nil, List.length_cons, List.length_nil, Int.cast_ofNat_Int, Int.reduceLT, gt_iff_lt, decide_true, decide_false, true_and, Nat.zero_add, memr, List.take_succ_cons, List.take_zero, List.drop_zero, Nat.ble, Cont.size, Cont.sub, Option.some.injEq, exists_eq_left', true_and, List.length_cons, List.length_nil, List.getD_cons_zero, hb]
      exact hq v h n cnt _ _ _ (.inl ⟨rfl, rfl, rfl⟩) hi h3 hn.1 (by rw [dig_zero, fin_nil, List.append_nil]; exact ho) (fun j hj => ⟨(hid j hj).1, (hid j hj).2.2.2.2⟩) (Old.refl _ _)
    · have hp : (0 : Int) < (m : Int) := by omega
      have hp0 : (0 : Int) ≤ (m : Int) := by omega
      by_cases hl : m / 256 = 0
      · have hl2 : ((m / 256 : Nat) : Int) = 0 := by omega
        have jn : ∀ j, ownId v = some j → j < n := fun j hj => ho.id_lt hj
        have hm2 : m % 256 < 256 := Nat.mod_lt _ (by decide)
        have hdl := dig_pos (m := m) (by omega)
        rw [hl, dig_zero] at hdl
        have hby : (UInt8.ofNat (m % 256)).toNat = m % 256 := by rw [UInt8.toNat_ofNat']; omega
        simp (disch := first | omega | exact NB _ rfl _) only [lp105_0, loopsOf, Try.f105, Option.getD_some, core1, tyr, fgr, execOp, opd, opds, ofValue, putT, put, nth, forgetL, doCall, und, lenOf, bor, binInt, shiftB, shiftOp, intOp, wrapI, strK, intK, readCells, cellsOf, oneOf, aggB, cel, rowK, List.append_nil, List.length_cons, List.length_nil, Int.reduceLE, gt_iff_lt, not_false_eq_true, decide_true, Bool.and_true, true_and, Nat.zero_add, beq_self_eq_true, reduceCtorEq, memr, List.take_succ_cons, List.take_zero, List.drop_zero, Nat.ble, writeCells, setAll, Cont.size, Cont.set, Cont.sub, upd_same, List.all_cons, List.all_nil, Option.some.injEq, exists_eq_left', Int.reduceToNat, ne_eq, true_and, List.length_cons, List.length_nil, convert, convStr, isU8, List.getD_cons_zero, hb, hp, wrap_u8 _ hp0, fd256, hl2, reduceCtorEq, not_false_eq_true]
        refine opv_yield (l := L29 (x0 :: AVal.junk :: x2 :: .ptr c3 0 :: .ptr c4 0 :: x5 :: x6 :: AVal.junk :: x8 :: AVal.junk :: AVal.junk :: x11 :: x12 :: x13 :: AVal.junk :: x15 :: AVal.junk :: AVal.junk :: AVal.junk :: AVal.junk :: AVal.junk :: AVal.junk :: x22 :: AVal.junk :: AVal.junk :: AVal.junk :: AVal.junk :: AVal.junk :: AVal.junk :: AVal.junk :: AVal.junk :: AVal.junk :: AVal.junk :: AVal.junk :: AVal.junk :: [])) (by rw [upd_ne _ _ (by omega)]; exact hi) rfl rfl ?_
        simp (disch := first | omega | exact NB _ rfl _) only [ra54_0, List.getD_cons_zero, putAll, List.zip_cons_cons, List.zip_nil_left, L29, rangesOf, Try.f54, Option.getD_some, core1, fgr, execOp, opd, putT, put, nth, forgetL, unOp, List.nil_append, List.append_nil, true_and]
        refine ⟨_, by rw [upd_ne _ _ (by omega)]; exact hi, rfl, ?_⟩
        have ha := and128 (m % 256) hm2
        by_cases hbig : 128 ≤ m % 256
        · rw [if_pos hbig] at ha
          simp (disch := first | omega | exact NB _ rfl _) only [rb54_0, List.getD_cons_zero, L29, rangesOf, Try.f54, Option.getD_some, core1, tyr, fgr, execOp, opd, opds, ofValue, ops2, putT, put, nth, forgetL, doCall, builtin, two2, und, bor, binInt, shiftB, intOp, wrapI, unOp, readCells, cellsOf, oneOf, aggB, cel, newRow, getO, rowK, List.cons_append, List.nil_append, List.append_nil, List.length_cons, List.length_nil, Nat.reduceAdd, Nat.beq, Int.reduceLT, gt_iff_lt, decide_true, Bool.not_true, Bool.not_false, Bool.and_true, Bool.true_and, true_and, Nat.zero_add, Nat.zero_mul, memr, buildSlice, reps, fill, List.take_succ_cons, List.take_zero, List.drop_succ_cons, List.drop_zero, Nat.ble, Nat.one_mul, Cont.size, Cont.sub, upd_ne, Option.some.injEq, exists_eq_left', true_and, List.length_cons, List.length_nil, Nat.zero_mul, h3, h4, Int.toNat_natCast, ha]
          refine own_append (i := ⟨.int .u8, 1, 1, .int .u8 0⟩) (e := 5) (xs := acc.map u8) (ys := [.int .u8 ((m % 256 : Nat) : Int), .int .u8 ((sg neg : Nat) : Int)]) (cnt := cnt) (e2 := 5)
            (ho.keep (by omega) fun j hj => by rw [upd_ne _ _ (by have := jn j hj; omega), upd_ne _ _ (by have := hid j hj; omega), upd_ne _ _ (by have := hid j hj; omega)]) rfl rfl ti5 (upd_same _ _ _) rfl (by decide) (by decide) rfl
            (fun e => by have := jn _ e; omega) (by simp only [Nat.mul_one]; omega) (by omega) ?_
          intro v1 H1 ho1 hid1 hold1
          have g3 : H1 c3 = some (.row (.l [v]) 22) := by rw [hold1 _ (by omega) (fun e => (hid _ e).2.1 rfl), upd_ne _ _ (by omega), upd_ne _ _ (by omega), upd_ne _ _ (by omega)]; exact h3
          have g4 : H1 c4 = some (.row (.l [.int .u8 ((sg neg : Nat) : Int)]) 5) := by rw [hold1 _ (by omega) (fun e => (hid _ e).2.2.1 rfl), upd_ne _ _ (by omega), upd_ne _ _ (by omega), upd_ne _ _ (by omega)]; exact h4
          have gb : H1 b = some (.row (.l [.int .u64 0]) 110) := by rw [hold1 _ (by omega) (fun e => (hid _ e).2.2.2.1 rfl), upd_ne _ _ (by omega), upd_ne _ _ (by omega)]; exact upd_same _ _ _
          have gi := hold1 id (by omega) (fun e => (hid _ e).2.2.2.2 rfl)
          rw [upd_ne _ _ (by omega), upd_same] at gi
          simp (disch := first | omega | exact NB _ rfl _) only [core1, cont_block_any, tyr, fgr, execOp, opd, putT, put, nth, forgetL, rowK, List.length_cons, List.length_nil, not_false_eq_true, Bool.not_false, Bool.and_true, true_and, Nat.zero_add, reduceCtorEq, memr, Nat.ble, writeCells, setAll, Cont.size, Cont.set, upd_ne, List.all_cons, List.all_nil, Option.some.injEq, exists_eq_left', ne_eq, true_and, List.length_cons, List.length_nil, g3, gi, ho1.kind, Blk.loop.injEq, normB, jumpOf]
          have hfin : fin (sg neg) (dig m) = [UInt8.ofNat (m % 256), UInt8.ofNat (sg neg)] := by
            rw [hdl, fin_hi _ _ (by simp) (by simp only [List.getLast_singleton, hby]; exact hbig)]; rfl
          have hsg : sg neg < 256 := by cases neg <;> decide
          refine hq v1 _ (n + 1 + 1) (cnt + 2) .ret _ _ ?_ (upd_same _ _ _) ?_ (by omega) ?_ (fun j hj => ?_) (fun j hj => ?_)
          · exact .inr ⟨rfl, rfl, rfl⟩
          · rw [upd_ne _ _ (by omega)]; exact upd_same _ _ _
          · rw [hfin, List.map_append, List.map_cons, List.map_singleton, u8_ofNat, u8_ofNat, Nat.mod_mod, Nat.mod_eq_of_lt hsg]
            exact ho1.keep (Nat.le_refl _) fun j hj => by rw [hid1] at hj; injection hj with hj; rw [upd_ne _ _ (by omega), upd_ne _ _ (by omega)]
          · rw [hid1] at hj; injection hj with hj; omega
          · rw [upd_ne _ _ (by omega), upd_ne _ _ (by omega), hold1 j (by omega) (fun e => by have := hid j e; omega), upd_ne _ _ (by omega), upd_ne _ _ (by omega), upd_ne _ _ (by omega)]
        · rw [if_neg hbig] at ha
          have hor := or128 (m % 256) (by omega) neg
          simp (disch := first | omega | exact NB _ rfl _) only [rb54_0, List.getD_cons_zero, L29, rangesOf, Try.f54, Option.getD_some, core1, tyr, fgr, execOp, opd, opds, ofValue, ops2, putT, put, nth, forgetL, doCall, builtin, two2, und, bor, binInt, shiftB, intOp, wrapI, unOp, readCells, cellsOf, oneOf, aggB, cel, newRow, getO, rowK, List.cons_append, List.nil_append, List.append_nil, List.length_cons, List.length_nil, Nat.beq, Int.reduceLT, gt_iff_lt, decide_true, decide_false, Bool.not_true, Bool.not_false, Bool.and_true, Bool.true_and, true_and, Nat.zero_add, Nat.zero_mul, memr, buildSlice, reps, fill, List.take_succ_cons, List.take_zero, List.drop_succ_cons, List.drop_zero, Nat.ble, Nat.one_mul, Cont.size, Cont.sub, upd_ne, Option.some.injEq, exists_eq_left', true_and, List.length_cons, List.length_nil, Nat.zero_mul, h3, h4, Int.toNat_natCast, ha, hor]
          refine own_append (i := ⟨.int .u8, 1, 1, .int .u8 0⟩) (e := 5) (xs := acc.map u8) (ys := [.int .u8 ((m % 256 + sg neg : Nat) : Int)]) (cnt := cnt) (e2 := 5)
            (ho.keep (by omega) fun j hj => by rw [upd_ne _ _ (by have := jn j hj; omega), upd_ne _ _ (by have := hid j hj; omega), upd_ne _ _ (by have := hid j hj; omega)]) rfl rfl ti5 (upd_same _ _ _) rfl (by decide) (by decide) rfl
            (fun e => by have := jn _ e; omega) (by simp only [Nat.mul_one]; omega) (by omega) ?_
          intro v1 H1 ho1 hid1 hold1
          have g3 : H1 c3 = some (.row (.l [v]) 22) := by rw [hold1 _ (by omega) (fun e => (hid _ e).2.1 rfl), upd_ne _ _ (by omega), upd_ne _ _ (by omega), upd_ne _ _ (by omega)]; exact h3
          have g4 : H1 c4 = some (.row (.l [.int .u8 ((sg neg : Nat) : Int)]) 5) := by rw [hold1 _ (by omega) (fun e => (hid _ e).2.2.1 rfl), upd_ne _ _ (by omega), upd_ne _ _ (by omega), upd_ne _ _ (by omega)]; exact h4
          have gb : H1 b = some (.row (.l [.int .u64 0]) 110) := by rw [hold1 _ (by omega) (fun e => (hid _ e).2.2.2.1 rfl), upd_ne _ _ (by omega), upd_ne _ _ (by omega)]; exact upd_same _ _ _
          have gi := hold1 id (by omega) (fun e => (hid _ e).2.2.2.2 rfl)
          rw [upd_ne _ _ (by omega), upd_same] at gi
          simp (disch := first | omega | exact NB _ rfl _) only [core1, tyr, fgr, execOp, opd, putT, put, nth, forgetL, rowK, List.length_cons, List.length_nil, not_false_eq_true, Bool.not_true, Bool.and_true, true_and, Nat.zero_add, reduceCtorEq, memr, Nat.ble, writeCells, setAll, Cont.size, Cont.set, upd_ne, List.all_cons, List.all_nil, Option.some.injEq, exists_eq_left', ne_eq, true_and, List.length_cons, List.length_nil, g3, gi, ho1.kind, Blk.loop.injEq, normB, jumpOf]
          have hsg : sg neg ≤ 128 := by cases neg <;> decide
          have hfin : fin (sg neg) (dig m) = [UInt8.ofNat (m % 256 + sg neg)] := by
            rw [hdl, fin_lo _ _ (by simp) (by simp only [List.getLast_singleton, hby]; exact hbig)]
            simp only [List.getLast_singleton, hby]; rfl
          have hacc : Own H1 (n + 1 + 1) 5 1 v1 (cnt + 1) ((acc ++ [UInt8.ofNat (m % 256 + sg neg)]).map u8) := by
            rw [List.map_append, List.map_singleton, u8_ofNat, Nat.mod_eq_of_lt (by omega)]; exact ho1
          refine ih 0 (by omega) (acc ++ [UInt8.ofNat (m % 256 + sg neg)]) (cnt + 1) v1 _ (n + 1 + 1) _ _ _ _ _ _ _ _ _ _ _ _ _ _ (by omega) (by omega) ?_ ?_ ?_ (upd_same _ _ _) ?_ ?_ (by rw [hdl] at hbd; simp [dig_zero] at hbd ⊢; omega) ?_
          · rw [upd_ne _ _ (by omega)]; exact upd_same _ _ _
          · rw [upd_ne _ _ (by omega), upd_ne _ _ (by omega)]; exact g4
          · rw [upd_ne _ _ (by omega), upd_ne _ _ (by omega)]; exact gb
          · exact hacc.keep (Nat.le_refl _) fun j hj => by rw [hid1] at hj; injection hj with hj; rw [upd_ne _ _ (by omega), upd_ne _ _ (by omega)]
          · intro j hj; rw [hid1] at hj; injection hj with hj; omega
          · intro v2 h2 n2 cnt2 e tm2 l he hl2 h32 hn2 ho2 hid2 hold2
            refine hq v2 h2 n2 cnt2 e tm2 l he hl2 h32 hn2 ?_ hid2 (fun j hj => ?_)
            · rw [hfin]; simpa [dig_zero, fin_nil] using ho2
            · rw [hold2 j hj, upd_ne _ _ (by omega), upd_ne _ _ (by omega), hold1 j (by omega) (fun e => by have := hid j e; omega), upd_ne _ _ (by omega), upd_ne _ _ (by omega), upd_ne _ _ (by omega)]
      · have hl2 : ¬ ((m / 256 : Nat) : Int) = 0 := by omega
        simp (disch := first | omega | exact NB _ rfl _) only [lp105_0, loopsOf, Try.f105, Option.getD_some, core1, tyr, fgr, execOp, opd, opds, ofValue, putT, put, nth, forgetL, doCall, und, lenOf, bor, binInt, shiftB, shiftOp, intOp, wrapI, strK, intK, readCells, cellsOf, oneOf, aggB, cel, rowK, List.append_nil, List.length_cons, List.length_nil, int_beq, Int.reduceLE, gt_iff_lt, not_false_eq_true, decide_true, decide_false, Bool.and_true, true_and, Nat.zero_add, reduceCtorEq, memr, List.take_succ_cons, List.take_zero, List.drop_zero, Nat.ble, writeCells, setAll, Cont.size, Cont.set, Cont.sub, upd_same, List.all_cons, List.all_nil, Option.some.injEq, exists_eq_left', Int.reduceToNat, ne_eq, true_and, List.length_cons, List.length_nil, convert, convStr, isU8, List.getD_cons_zero, hb, hp, wrap_u8 _ hp0, fd256, hl2, reduceCtorEq, not_false_eq_true]
        refine opv_yield (l := L29 (x0 :: AVal.junk :: x2 :: .ptr c3 0 :: .ptr c4 0 :: x5 :: x6 :: AVal.junk :: x8 :: AVal.junk :: AVal.junk :: x11 :: x12 :: x13 :: AVal.junk :: x15 :: AVal.junk :: AVal.junk :: AVal.junk :: AVal.junk :: AVal.junk :: AVal.junk :: x22 :: AVal.junk :: AVal.junk :: AVal.junk :: AVal.junk :: AVal.junk :: AVal.junk :: AVal.junk :: AVal.junk :: AVal.junk :: AVal.junk :: AVal.junk :: AVal.junk :: [])) (by rw [upd_ne _ _ (by omega)]; exact hi) rfl rfl ?_
        simp (disch := first | omega | exact NB _ rfl _) only [ra54_0, List.getD_cons_zero, putAll, List.zip_cons_cons, List.zip_nil_left, L29, rangesOf, Try.f54, Option.getD_some, core1, fgr, execOp, opd, putT, put, nth, forgetL, unOp, List.nil_append, List.append_nil, true_and]
        refine ⟨_, by rw [upd_ne _ _ (by omega)]; exact hi, rfl, ?_⟩
        simp (disch := first | omega | exact NB _ rfl _) only [rb54_0, List.getD_cons_zero, L29, rangesOf, Try.f54, Option.getD_some, core1, tyr, fgr, execOp, opd, opds, ops2, putT, put, nth, forgetL, doCall, builtin, two2, und, unOp, readCells, cellsOf, oneOf, aggB, cel, newRow, getO, rowK, List.cons_append, List.nil_append, List.append_nil, List.length_cons, List.length_nil, Nat.beq, Bool.not_false, Bool.and_true, Bool.true_and, true_and, Nat.zero_add, Nat.zero_mul, memr, buildSlice, reps, fill, List.take_succ_cons, List.take_zero, List.drop_succ_cons, List.drop_zero, Nat.ble, Nat.one_mul, Cont.size, Cont.sub, upd_ne, Option.some.injEq, exists_eq_left', true_and, List.length_cons, List.length_nil, Nat.zero_mul, h3]
        have jn : ∀ j, ownId v = some j → j < n := fun j hj => ho.id_lt hj
        refine own_append (i := ⟨.int .u8, 1, 1, .int .u8 0⟩) (e := 5) (xs := acc.map u8) (ys := [.int .u8 (((m : Int).toNat % 256 : Nat) : Int)]) (cnt := cnt) (e2 := 5)
          (ho.keep (by omega) fun j hj => by rw [upd_ne _ _ (by have := jn j hj; omega), upd_ne _ _ (by have := hid j hj; omega), upd_ne _ _ (by have := hid j hj; omega)]) rfl rfl ti5 (upd_same _ _ _) rfl (by decide) (by decide) rfl
          (fun e => by have := jn _ e; omega) (by simp only [Nat.mul_one]; omega) (by omega) ?_
        intro v1 H1 ho1 hid1 hold1
        have g3 : H1 c3 = some (.row (.l [v]) 22) := by rw [hold1 _ (by omega) (fun e => (hid _ e).2.1 rfl), upd_ne _ _ (by omega), upd_ne _ _ (by omega), upd_ne _ _ (by omega)]; exact h3
        have g4 : H1 c4 = some (.row (.l [.int .u8 ((sg neg : Nat) : Int)]) 5) := by rw [hold1 _ (by omega) (fun e => (hid _ e).2.2.1 rfl), upd_ne _ _ (by omega), upd_ne _ _ (by omega), upd_ne _ _ (by omega)]; exact h4
        have gb : H1 b = some (.row (.l [.int .u64 ((m / 256 : Nat) : Int)]) 110) := by rw [hold1 _ (by omega) (fun e => (hid _ e).2.2.2.1 rfl), upd_ne _ _ (by omega), upd_ne _ _ (by omega)]; exact upd_same _ _ _
        have gi := hold1 id (by omega) (fun e => (hid _ e).2.2.2.2 rfl)
        rw [upd_ne _ _ (by omega), upd_same] at gi
        simp (disch := first | omega | exact NB _ rfl _) only [core1, tyr, fgr, execOp, opd, putT, put, nth, forgetL, rowK, List.length_cons, List.length_nil, not_false_eq_true, Bool.not_true, Bool.and_true, true_and, Nat.zero_add, reduceCtorEq, memr, Nat.ble, writeCells, setAll, Cont.size, Cont.set, upd_ne, List.all_cons, List.all_nil, Option.some.injEq, exists_eq_left', ne_eq, true_and, List.length_cons, List.length_nil, g3, gi, ho1.kind, Blk.loop.injEq, normB, jumpOf]
        have hdl := dig_pos (m := m) (by omega)
        have hdl2 := dig_pos (m := m / 256) (by omega)
        have hlen : (dig m).length = (dig (m / 256)).length + 1 := by rw [hdl]; rfl
        have hacc : Own H1 (n + 1 + 1) 5 1 v1 (cnt + 1) ((acc ++ [UInt8.ofNat (m % 256)]).map u8) := by
          rw [List.map_append, List.map_singleton, u8_ofNat, Nat.mod_mod]; rw [Int.toNat_natCast] at ho1; exact ho1
        refine ih (m / 256) (Nat.div_lt_self (by omega) (by decide)) (acc ++ [UInt8.ofNat (m % 256)]) (cnt + 1) v1 _ (n + 1 + 1) _ _ _ _ _ _ _ _ _ _ _ _ _ _ (by omega) (by omega) ?_ ?_ ?_ (upd_same _ _ _) ?_ ?_ (by omega) ?_
        · rw [upd_ne _ _ (by omega)]; exact upd_same _ _ _
        · rw [upd_ne _ _ (by omega), upd_ne _ _ (by omega)]; exact g4
        · rw [upd_ne _ _ (by omega), upd_ne _ _ (by omega)]; exact gb
        · exact hacc.keep (Nat.le_refl _) fun j hj => by rw [hid1] at hj; injection hj with hj; rw [upd_ne _ _ (by omega), upd_ne _ _ (by omega)]
        · intro j hj; rw [hid1] at hj; injection hj with hj; omega
        · intro v2 h2 n2 cnt2 e tm2 l he hl2 h32 hn2 ho2 hid2 hold2
          refine hq v2 h2 n2 cnt2 e tm2 l he hl2 h32 hn2 ?_ hid2 (fun j hj => ?_)
          · rw [hdl, hdl2, fin_cons, ← hdl2]; simpa using ho2
          · rw [hold2 j hj, upd_ne _ _ (by omega), upd_ne _ _ (by omega), hold1 j (by omega) (fun e => by have := hid j e; omega), upd_ne _ _ (by omega), upd_ne _ _ (by omega), upd_ne _ _ (by omega)]
theorem f54 (neg : Bool) (m : Nat) (hm : m < 9223372036854775808) (hn : neg = true → 0 < m) (h : Hp) (n : Nat) : Wp (callI env (evalW env) 54 [.int .i64 (sv neg m)]) h n fun v' h' n' => ∃ cnt, Own h' n' 5 1 v' cnt ((fin (sg neg) (dig m)).map u8) ∧ (∀ j, ownId v' = some j → n ≤ j) ∧ Old h h' n := by
  refine wp_callI ff54 fi54 ?_
  have hdl : (dig m).length ≤ 8 := dig_len 8 _ (by have : m < 18446744073709551616 := by omega
                                                   exact this)
  have hz2 : ¬ (m : Int) < 0 := by omega
  have hz5 : ((sv neg m).natAbs : Int) = m := by cases neg <;> simp [sv]
  have hz6 : decide (sv neg m < 0) = neg := by
    cases neg with
    | false => simp only [sv, hz2]; rfl
    | true => have := hn rfl; simp [sv]; omega
  have hz7 : -9223372036854775808 < sv neg m := by cases neg <;> simp only [sv] <;> omega
  have hz8 : sv neg m ≤ 9223372036854775807 := by cases neg <;> simp only [sv] <;> omega
  cases neg with
  | true =>
    simp (disch := first | omega | exact NB _ rfl _) only [fu54, Try.f54, Option.getD_some, List.replicate, core1, tyr, fgr, hkr, execOp, opd, opds, ofValue, putT, put, nth, forgetL, doCall, callV_func, zeroOf, bor, binInt, shiftB, intOp, cel, alloc, doAlloc, newRow, ended, resultOf, oneOrTup, rowK, List.cons_append, List.nil_append, List.append_nil, List.length_cons, List.length_nil, Nat.reduceSub, not_false_eq_true, decide_true, Bool.and_true, true_and, Nat.zero_add, wp_pure, reduceCtorEq, memr, Nat.ble, writeCells, setAll, Cont.size, Cont.set, upd_same, List.all_cons, List.all_nil, Option.some.injEq, exists_eq_left', ne_eq, true_and, List.length_cons, List.length_nil, hz6, c81, c80, hz5]
    refine run_range (g := 105) (first := []) (cap := [.ptr (n + 1 + 1) 0]) rfl rfl ?_
    refine wp_callI ff105 fi105 ?_
    simp only [fu105, Try.f105, Option.getD_some, List.replicate, core1, fgr, ended, resultOf, oneOrTup, List.cons_append, List.nil_append, List.length_cons, List.length_nil, Nat.reduceAdd, Nat.reduceSub, Nat.zero_add, wp_pure]
    refine loop105 _ _ n n (n + 1) (n + 1 + 1) (n + 1 + 1 + 1) true _ _ _ _ _ _ _ _ _ _ (by omega) (by omega) m [] 0 .nils _ (n + 1 + 1 + 1 + 1) _ _ _ _ _ _ _ _ _ _ _ _ _ _ (by omega) (by omega) ?_ ?_ ?_ (upd_same _ _ _) .nil (fun j hj => by cases hj) (by omega) ?_
    · simp (disch := first | omega | exact NB _ rfl _) only [upd_same, upd_ne]
    · simp (disch := first | omega | exact NB _ rfl _) only [upd_same, upd_ne]; rfl
    · simp (disch := first | omega | exact NB _ rfl _) only [upd_same, upd_ne]
    · intro v h1 n1 cnt e tm' l he hl hv hn1 ho hid hold
      rcases he with ⟨rfl, hs1, hs2⟩ | ⟨rfl, hs1, hs2⟩
      · simp only [core1, true_and]
        refine ⟨l, hl, by rw [hs1]; simp, .normal, by rw [hs2], ?_⟩
        simp (disch := first | omega | exact NB _ rfl _) only [core1, tyr, fgr, execOp, opd, putT, put, nth, forgetL, readCells, cellsOf, oneOf, aggB, rowK, List.length_cons, List.length_nil, true_and, Nat.zero_add, memr, List.take_succ_cons, List.take_zero, List.drop_zero, Nat.ble, Cont.size, Cont.sub, upd_ne, Option.some.injEq, exists_eq_left', true_and, List.length_cons, List.length_nil, hv]
        refine ⟨cnt, ?_, fun j hj => (hid j hj).1, fun j hj => ?_⟩
        · rw [List.nil_append] at ho; exact ho.keep (Nat.le_refl _) fun j hj => upd_ne _ _ (hid j hj).2
        · rw [upd_ne _ _ (by omega), hold j hj]
          simp (disch := first | omega | exact NB _ rfl _) only [upd_ne]
      · simp only [core1, true_and]
        refine ⟨l, hl, by rw [hs1]; simp, .exit 0, by rw [hs2], ?_⟩
        simp (disch := first | omega | exact NB _ rfl _) only [core1, tyr, fgr, execOp, opd, putT, put, nth, forgetL, readCells, cellsOf, oneOf, aggB, rowK, List.length_cons, List.length_nil, true_and, Nat.zero_add, memr, List.take_succ_cons, List.take_zero, List.drop_zero, Nat.ble, Cont.size, Cont.sub, upd_ne, Option.some.injEq, exists_eq_left', true_and, List.length_cons, List.length_nil, hv]
        refine ⟨cnt, ?_, fun j hj => (hid j hj).1, fun j hj => ?_⟩
        · rw [List.nil_append] at ho; exact ho.keep (Nat.le_refl _) fun j hj => upd_ne _ _ (hid j hj).2
        · rw [upd_ne _ _ (by omega), hold j hj]
          simp (disch := first | omega | exact NB _ rfl _) only [upd_ne]
  | false =>
    simp (disch := first | omega | exact NB _ rfl _) only [fu54, Try.f54, Option.getD_some, List.replicate, core1, tyr, fgr, hkr, execOp, opd, opds, ofValue, putT, put, nth, forgetL, doCall, callV_func, zeroOf, bor, binInt, shiftB, intOp, cel, alloc, doAlloc, newRow, ended, resultOf, oneOrTup, rowK, List.cons_append, List.nil_append, List.append_nil, List.length_cons, List.length_nil, Nat.reduceSub, not_false_eq_true, decide_true, Bool.and_true, true_and, Nat.zero_add, wp_pure, reduceCtorEq, memr, Nat.ble, writeCells, setAll, Cont.size, Cont.set, upd_same, List.all_cons, List.all_nil, Option.some.injEq, exists_eq_left', ne_eq, true_and, List.length_cons, List.length_nil, hz6, c81, c80, hz5]
    refine run_range (g := 105) (first := []) (cap := [.ptr (n + 1 + 1) 0]) rfl rfl ?_
    refine wp_callI ff105 fi105 ?_
    simp only [fu105, Try.f105, Option.getD_some, List.replicate, core1, fgr, ended, resultOf, oneOrTup, List.cons_append, List.nil_append, List.length_cons, List.length_nil, Nat.reduceAdd, Nat.reduceSub, Nat.zero_add, wp_pure]
    refine loop105 _ _ n n (n + 1) (n + 1 + 1) (n + 1 + 1 + 1) false _ _ _ _ _ _ _ _ _ _ (by omega) (by omega) m [] 0 .nils _ (n + 1 + 1 + 1 + 1) _ _ _ _ _ _ _ _ _ _ _ _ _ _ (by omega) (by omega) ?_ ?_ ?_ (upd_same _ _ _) .nil (fun j hj => by cases hj) (by omega) ?_
    · simp (disch := first | omega | exact NB _ rfl _) only [upd_same, upd_ne]
    · simp (disch := first | omega | exact NB _ rfl _) only [upd_same, upd_ne]; rfl
    · simp (disch := first | omega | exact NB _ rfl _) only [upd_same, upd_ne]
    · intro v h1 n1 cnt e tm' l he hl hv hn1 ho hid hold
      rcases he with ⟨rfl, hs1, hs2⟩ | ⟨rfl, hs1, hs2⟩
      · simp only [core1, true_and]
        refine ⟨l, hl, by rw [hs1]; simp, .normal, by rw [hs2], ?_⟩
        simp (disch := first | omega | exact NB _ rfl _) only [core1, tyr, fgr, execOp, opd, putT, put, nth, forgetL, readCells, cellsOf, oneOf, aggB, rowK, List.length_cons, List.length_nil, true_and, Nat.zero_add, memr, List.take_succ_cons, List.take_zero, List.drop_zero, Nat.ble, Cont.size, Cont.sub, upd_ne, Option.some.injEq, exists_eq_left', true_and, List.length_cons, List.length_nil, hv]
        refine ⟨cnt, ?_, fun j hj => (hid j hj).1, fun j hj => ?_⟩
        · rw [List.nil_append] at ho; exact ho.keep (Nat.le_refl _) fun j hj => upd_ne _ _ (hid j hj).2
        · rw [upd_ne _ _ (by omega), hold j hj]
          simp (disch := first | omega | exact NB _ rfl _) only [upd_ne]
      · simp only [core1, true_and]
        refine ⟨l, hl, by rw [hs1]; simp, .exit 0, by rw [hs2], ?_⟩
        simp (disch := first | omega | exact NB _ rfl _) only [core1, tyr, fgr, execOp, opd, putT, put, nth, forgetL, readCells, cellsOf, oneOf, aggB, rowK, List.length_cons, List.length_nil, true_and, Nat.zero_add, memr, List.take_succ_cons, List.take_zero, List.drop_zero, Nat.ble, Cont.size, Cont.sub, upd_ne, Option.some.injEq, exists_eq_left', true_and, List.length_cons, List.length_nil, hv]
        refine ⟨cnt, ?_, fun j hj => (hid j hj).1, fun j hj => ?_⟩
        · rw [List.nil_append] at ho; exact ho.keep (Nat.le_refl _) fun j hj => upd_ne _ _ (hid j hj).2
        · rw [upd_ne _ _ (by omega), hold j hj]
          simp (disch := first | omega | exact NB _ rfl _) only [upd_ne]
/- Bytes of numbers, whether bytes are true: both. -/
theorem sv_of (x : Int) : ∃ neg m, x = sv neg m ∧ (neg = true → 0 < m) ∧ m = x.natAbs ∧ sg neg = sgn x := by
  by_cases h : x < 0
  · exact ⟨true, x.natAbs, by simp only [sv]; omega, (fun _ => by omega), rfl, by simp [sg, sgn, h]⟩
  · exact ⟨false, x.natAbs, by simp only [sv]; omega, (fun e => by cases e), rfl, by simp [sg, sgn, h]⟩
/-- What a call answers that makes bytes of its own. -/
def Made (h : Hp) (n : Nat) (l : List UInt8) (v : AVal) (h' : Hp) (n' : Nat) : Prop := Bytes h' v l ∧ Below0 n' v ∧ Old h h' n
theorem f54x (x : Int) (h1 : -9223372036854775808 < x) (h2 : x ≤ 9223372036854775807) (h : Hp) (n : Nat) : Wp (callI env (evalW env) 54 [.int .i64 x]) h n (Made h n (fmB x)) := by
  obtain ⟨neg, m, e1, e2, e3, e4⟩ := sv_of x
  have := f54 neg m (by omega) e2 h n
  rw [← e1, e3, e4] at this
  exact wp_mono this fun v h' n' ⟨cnt, a, b, c⟩ => ⟨a.bytes, a.below, c⟩
def wideB (x : Int) : Bool := decide (x ≤ -549755813888) || decide (549755813888 ≤ x)
def encL (x : Int) : List UInt8 := match wideB x with | true => [] | false => fmB x
def encE (x : Int) : Int := match wideB x with | true => 110 | false => 0
def Made2 (h : Hp) (n : Nat) (l : List UInt8) (e : Int) (v : AVal) (h' : Hp) (n' : Nat) : Prop := ∃ s, v = .tup [s, .int .i64 e] ∧ Made h n l s h' n'
theorem f17 (x : Int) (h1 : -9223372036854775808 ≤ x) (h2 : x ≤ 9223372036854775807) (h : Hp) (n : Nat) : Wp (callI env (evalW env) 17 [.int .i64 x]) h n (Made2 h n (encL x) (encE x)) := by
  refine wp_callI ff17 fi17 ?_
  by_cases e1 : x ≤ -549755813888
  · have hw : wideB x = true := by simp [wideB, e1]
    simp only [fu17, Try.f17, Option.getD_some, List.replicate, core1, fgr, execOp, opd, ofValue, putT, put, nth, forgetL, bor, binInt, shiftB, intOp, doPick, branch, ended, resultOf, oneOrTup, List.getElem?_cons_succ, List.getElem?_cons_zero, List.cons_append, List.nil_append, List.length_cons, List.length_nil, Nat.reduceSub, Int.reduceNeg, decide_true, true_and, Nat.zero_add, wp_pure, e1, encL, encE, hw]
    exact ⟨.nils, rfl, .nils, trivial, Old.refl _ _⟩
  · by_cases e2 : 549755813888 ≤ x
    · have hw : wideB x = true := by simp [wideB, e2]
      simp only [fu17, Try.f17, Option.getD_some, List.replicate, core1, fgr, execOp, opd, ofValue, putT, put, nth, forgetL, bor, binInt, shiftB, intOp, doPick, branch, ended, resultOf, oneOrTup, List.getElem?_cons_succ, List.getElem?_cons_zero, List.cons_append, List.nil_append, List.length_cons, List.length_nil, Nat.reduceSub, Int.reduceNeg, ge_iff_le, decide_true, decide_false, true_and, Nat.zero_add, wp_pure, e1, e2, encL, encE, hw]
      exact ⟨.nils, rfl, .nils, trivial, Old.refl _ _⟩
    · have hw : wideB x = false := by simp [wideB, e1, e2]
      simp only [fu17, Try.f17, Option.getD_some, List.replicate, core1, fgr, hkr, execOp, opd, opds, ofValue, putT, put, nth, forgetL, doCall, callV_func, bor, binInt, shiftB, intOp, doPick, branch, ended, resultOf, oneOrTup, List.getElem?_cons_succ, List.getElem?_cons_zero, List.cons_append, List.nil_append, List.append_nil, List.length_cons, List.length_nil, Nat.reduceSub, Int.reduceNeg, ge_iff_le, decide_true, decide_false, Nat.zero_add, wp_pure, e1, e2, encL, encE, hw]
      refine opv_call (f54x x (by omega) (by omega) h n) fun v h' n' hn hv => ?_
      simp only [core1, fgr, execOp, opd, ofValue, putT, put, nth, forgetL, true_and]
      exact ⟨v, rfl, hv⟩
theorem t9 : und env 9 = M.pure .string := rfl
theorem t5 : und env 5 = M.pure (.int .u8) := rfl
theorem f55 (v w : AVal) (a b : List UInt8) (h : Hp) (n : Nat) (hv : Bytes h v a) (hw : Bytes h w b) : Wp (callI env (evalW env) 55 [v, w]) h n fun v' h' n' => v' = .bool (decide (a = b)) ∧ h' = h ∧ n' = n := by
  refine wp_callI ff55 fi55 ?_
  simp only [fu55, Try.f55, Option.getD_some, List.replicate, core1, fgr, execOp, opd, ofValue, putT, put, nth, forgetL, bor, strOp, strK, ended, resultOf, oneOrTup, List.cons_append, List.nil_append, List.length_cons, List.length_nil, Nat.reduceAdd, Nat.reduceSub, str_beq, and_self, Nat.zero_add, wp_pure, hv.str t22 t9 t5, hw.str t22 t9 t5]
/-- Are bytes true? -/
def tv : List UInt8 → Bool
  | [] => false
  | [b] => decide (¬ b.toNat = 0) && decide (¬ b.toNat = 128)
  | b :: c :: l => decide (¬ b.toNat = 0) || tv (c :: l)
theorem tv_drop (l : List UInt8) (i : Nat) (hi : i < l.length) : tv (l.drop i) = if i = l.length - 1 then decide (¬ l[i].toNat = 0) && decide (¬ l[i].toNat = 128) else decide (¬ l[i].toNat = 0) || tv (l.drop (i + 1)) := by
  rw [List.drop_eq_getElem_cons hi]
  split
  · have : l.drop (i + 1) = [] := by rw [List.drop_eq_nil_iff]; omega
    rw [this]; rfl
  · have h2 : i + 1 < l.length := by omega
    rw [List.drop_eq_getElem_cons h2]; rfl
theorem loop19 (Q : Post0) (ks : List Kf) (v : AVal) (l : List UInt8) (h : Hp) (n : Nat) (hb : Bytes h v l) (hlen : l.length < 1000000) (hT : tv l = true → ∀ (x0 x3 x4 x5 x6 x7 x8 x24 : AVal), Kont env 19 none Q ks .ret (x0 :: AVal.junk :: .bool true :: x3 :: x4 :: x5 :: x6 :: x7 :: x8 :: AVal.junk :: AVal.junk :: AVal.junk :: AVal.junk :: AVal.junk :: AVal.junk :: AVal.junk :: AVal.junk :: AVal.junk :: AVal.junk :: AVal.junk :: AVal.junk :: AVal.junk :: AVal.junk :: AVal.junk :: x24 :: AVal.junk :: []) h n) (hF : tv l = false → ∀ (x0 x2 x3 x4 x5 x6 x7 x8 x24 : AVal), Kont env 19 none Q ks (.exit 0) (x0 :: AVal.junk :: x2 :: x3 :: x4 :: x5 :: x6 :: x7 :: x8 :: AVal.junk :: AVal.junk :: AVal.junk :: AVal.junk :: AVal.junk :: AVal.junk :: AVal.junk :: AVal.junk :: AVal.junk :: AVal.junk :: AVal.junk :: AVal.junk :: AVal.junk :: AVal.junk :: AVal.junk :: x24 :: AVal.junk :: []) h n) :
    ∀ (k i : Nat) (x2 x3 x4 x8 x24 : AVal), i + k = l.length → tv (l.drop i) = tv l → Run env 19 none Q (.loop lp19_0) ks (v :: AVal.junk :: x2 :: x3 :: x4 :: v :: .int .i64 (l.length : Nat) :: .int .i64 (i : Nat) :: x8 :: AVal.junk :: AVal.junk :: AVal.junk :: AVal.junk :: AVal.junk :: AVal.junk :: AVal.junk :: AVal.junk :: AVal.junk :: AVal.junk :: AVal.junk :: AVal.junk :: AVal.junk :: AVal.junk :: AVal.junk :: x24 :: AVal.junk :: []) h n := by
  intro k
  induction k with
  | zero =>
    intro i x2 x3 x4 x8 x24 hi ht
    rw [run_loop]
    have hc : ¬ ((i : Int) < ((l.length : Nat) : Int)) := by omega
    have hd : l.drop i = [] := by rw [List.drop_eq_nil_iff]; omega
    rw [hd] at ht
    simp only [lp19_0, loopsOf, Try.f19, Option.getD_some, core1, fgr, execOp, opd, putT, put, nth, forgetL, bor, binInt, shiftB, intOp, List.nil_append, List.append_nil, decide_true, decide_false, List.getD_cons_zero, hc]
    exact hF ht.symm _ _ _ _ _ _ _ _ _
  | succ k ih =>
    intro i x2 x3 x4 x8 x24 hi ht
    rw [run_loop]
    have hil : i < l.length := by omega
    have hc : ((i : Int) < ((l.length : Nat) : Int)) := by omega
    have hi1 : 0 ≤ (i : Int) ∧ (i : Int) < ((l.length : Nat) : Int) := by omega
    have htv := tv_drop l i hil
    have hnext : (l[i].toNat = 0 ∨ (l[i].toNat = 128 ∧ i = l.length - 1)) → tv (l.drop (i + 1)) = tv l := by
      intro hh
      rw [← ht, htv]
      split
      · rename_i e
        have : l.drop (i + 1) = [] := by rw [List.drop_eq_nil_iff]; omega
        rw [this]
        rcases hh with hh | ⟨hh, _⟩ <;> simp [hh, tv]
      · rename_i e
        rcases hh with hh | ⟨_, hh⟩
        · simp [hh]
        · exact absurd hh e
    have hyes : ¬ l[i].toNat = 0 → (¬ l[i].toNat = 128 ∨ ¬ i = l.length - 1) → tv l = true := by
      intro h1 h2
      rw [← ht, htv]
      split
      · rename_i e
        rcases h2 with h2 | h2
        · simp [h1, h2]
        · exact absurd e h2
      · simp [h1]
    have hw1 : IntKind.i64.wrap (((l.length : Nat) : Int) - 1) = ((l.length : Nat) : Int) - 1 := w64 (by omega) (by omega)
    have hw2 : IntKind.i64.wrap ((i : Int) + 1) = ((i + 1 : Nat) : Int) := by rw [w64 (by omega) (by omega)]; omega
    by_cases e1 : ((l[i].toNat : Nat) : Int) = 0
    · simp only [lp19_0, loopsOf, Try.f19, Option.getD_some, core1, opg_un, u8, fgr, execOp, opd, ofValue, putT, put, nth, forgetL, bor, binInt, shiftB, intOp, wrapI, doPick, branch, List.getElem?_cons_succ, List.getElem?_cons_zero, List.nil_append, List.append_nil, decide_true, true_and, and_self, bne_self_eq_false, List.getD_cons_zero, hc, hb.index t22 s5, hi1, Int.toNat_natCast, hb.load ti5 rfl hil, e1, hw2]
      exact ih (i + 1) _ _ _ _ _ (by omega) (hnext (.inl (by omega)))
    · by_cases e2 : ((l[i].toNat : Nat) : Int) = 128
      · by_cases e3 : i = l.length - 1
        · have e4 : ¬ ((i : Int) < ((l.length : Nat) : Int) - 1) := by omega
          simp only [lp19_0, loopsOf, Try.f19, Option.getD_some, core1, u8, fgr, execOp, opd, opds, ofValue, putT, put, nth, forgetL, doCall, builtin, one1, bor, binInt, shiftB, intOp, wrapI, doPick, branch, List.getElem?_cons_succ, List.getElem?_cons_zero, List.nil_append, List.append_nil, int_bne, Int.reduceEq, not_false_eq_true, decide_true, decide_false, true_and, and_self, bne_self_eq_false, List.getD_cons_zero, hc, hb.index t22 s5, hi1, Int.toNat_natCast, hb.load ti5 rfl hil, e2, hb.bLen t22, hw1, hw2, e4]
          exact ih (i + 1) _ _ _ _ _ (by omega) (hnext (.inr ⟨by omega, e3⟩))
        · have e4 : ((i : Int) < ((l.length : Nat) : Int) - 1) := by omega
          simp only [lp19_0, loopsOf, Try.f19, Option.getD_some, core1, u8, fgr, execOp, opd, opds, ofValue, putT, put, nth, forgetL, doCall, builtin, one1, bor, binInt, shiftB, intOp, wrapI, doPick, branch, List.getElem?_cons_succ, List.getElem?_cons_zero, List.nil_append, List.append_nil, int_bne, Int.reduceEq, not_false_eq_true, decide_true, true_and, and_self, bne_self_eq_false, List.getD_cons_zero, hc, hb.index t22 s5, hi1, Int.toNat_natCast, hb.load ti5 rfl hil, e2, hb.bLen t22, hw1, e4]
          exact hT (hyes (by omega) (.inr e3)) _ _ _ _ _ _ _ _
      · simp only [lp19_0, loopsOf, Try.f19, Option.getD_some, core1, u8, fgr, execOp, opd, ofValue, putT, put, nth, forgetL, bor, binInt, shiftB, intOp, doPick, branch, List.getElem?_cons_succ, List.getElem?_cons_zero, List.nil_append, List.append_nil, int_bne, not_false_eq_true, decide_true, true_and, and_self, List.getD_cons_zero, hc, hb.index t22 s5, hi1, Int.toNat_natCast, hb.load ti5 rfl hil, e1, e2]
        exact hT (hyes (by omega) (.inl (by omega))) _ _ _ _ _ _ _ _
theorem f19 (v : AVal) (l : List UInt8) (h : Hp) (n : Nat) (hb : Bytes h v l) (hlen : l.length < 1000000) : Wp (callI env (evalW env) 19 [v]) h n fun v' h' n' => v' = .bool (tv l) ∧ h' = h ∧ n' = n := by
  refine wp_callI ff19 fi19 ?_
  simp only [fu19, Try.f19, Option.getD_some, List.replicate, core1, fgr, execOp, opd, opds, ofValue, putT, put, nth, forgetL, doCall, builtin, one1, ended, resultOf, oneOrTup, List.cons_append, List.nil_append, List.length_cons, List.length_nil, Nat.reduceSub, Nat.zero_add, wp_pure, hb.bLen t22]
  refine loop19 _ _ v l h n hb hlen ?_ ?_ l.length 0 _ _ _ _ _ (by omega) rfl
  · intro hT x0 x3 x4 x5 x6 x7 x8 x24
    simp only [core1, nth, and_self, hT]
  · intro hF x0 x2 x3 x4 x5 x6 x7 x8 x24
    simp only [core1, fgr, execOp, opd, ofValue, putT, put, nth, forgetL, and_self, hF]
/- The number of bytes: the program's and the document's. -/
theorem or_gen (x y : Nat) (k : Nat) (hx : x < 2 ^ k) (hy : y < 256) (hk : k ≤ 24) : IntKind.i64.wrap (((BitVec.ofInt IntKind.i64.bits (x : Int)) ||| (BitVec.ofInt IntKind.i64.bits ((y * 2 ^ k : Nat) : Int))).toNat : Int) = ((x + y * 2 ^ k : Nat) : Int) := by
  have h1 : 2 ^ k ≤ 2 ^ 24 := Nat.pow_le_pow_right (by decide) hk
  have h2 : y * 2 ^ k ≤ 255 * 2 ^ 24 := Nat.mul_le_mul (by omega) h1
  have hb : IntKind.i64.bits = 64 := rfl
  rw [BitVec.toNat_or, BitVec.ofInt_natCast, BitVec.ofInt_natCast, BitVec.toNat_ofNat, BitVec.toNat_ofNat, hb, Nat.mod_eq_of_lt (by omega), Nat.mod_eq_of_lt (by omega), Nat.mul_comm y, Nat.or_comm, ← Nat.two_pow_add_eq_or_of_lt hx]
  rw [Nat.mul_comm y] at h2
  rw [w64 (by omega) (by omega), Nat.add_comm]
theorem or0 (y : Int) (h : 0 ≤ y) (hy : y < 256) : IntKind.i64.wrap (((BitVec.ofInt IntKind.i64.bits 0) ||| (BitVec.ofInt IntKind.i64.bits y)).toNat : Int) = y := by
  obtain ⟨m, rfl⟩ : ∃ m : Nat, y = m := ⟨y.toNat, by omega⟩
  have := or_gen 0 m 0 (by decide) (by omega) (by decide)
  simpa using this
theorem or8 (x y : Int) (hx : 0 ≤ x) (hx2 : x < 256) (h : 0 ≤ y) (hy : y < 256) : IntKind.i64.wrap (((BitVec.ofInt IntKind.i64.bits x) ||| (BitVec.ofInt IntKind.i64.bits (y * 256))).toNat : Int) = x + y * 256 := by
  obtain ⟨m, rfl⟩ : ∃ m : Nat, y = m := ⟨y.toNat, by omega⟩
  obtain ⟨k, rfl⟩ : ∃ k : Nat, x = k := ⟨x.toNat, by omega⟩
  have := or_gen k m 8 (by omega) (by omega) (by decide)
  simpa using this
theorem or16 (x y : Int) (hx : 0 ≤ x) (hx2 : x < 65536) (h : 0 ≤ y) (hy : y < 256) : IntKind.i64.wrap (((BitVec.ofInt IntKind.i64.bits x) ||| (BitVec.ofInt IntKind.i64.bits (y * 65536))).toNat : Int) = x + y * 65536 := by
  obtain ⟨m, rfl⟩ : ∃ m : Nat, y = m := ⟨y.toNat, by omega⟩
  obtain ⟨k, rfl⟩ : ∃ k : Nat, x = k := ⟨x.toNat, by omega⟩
  have := or_gen k m 16 (by omega) (by omega) (by decide)
  simpa using this
theorem or24 (x y : Int) (hx : 0 ≤ x) (hx2 : x < 16777216) (h : 0 ≤ y) (hy : y < 256) : IntKind.i64.wrap (((BitVec.ofInt IntKind.i64.bits x) ||| (BitVec.ofInt IntKind.i64.bits (y * 16777216))).toNat : Int) = x + y * 16777216 := by
  obtain ⟨m, rfl⟩ : ∃ m : Nat, y = m := ⟨y.toNat, by omega⟩
  obtain ⟨k, rfl⟩ : ∃ k : Nat, x = k := ⟨x.toNat, by omega⟩
  have := or_gen k m 24 (by omega) (by omega) (by decide)
  simpa using this
theorem pw0 : (2 : Int) ^ (min 0 IntKind.i64.bits) = 1 := by decide
theorem pw8 : (2 : Int) ^ (min 8 IntKind.i64.bits) = 256 := by decide
theorem pw16 : (2 : Int) ^ (min 16 IntKind.i64.bits) = 65536 := by decide
theorem pw24 : (2 : Int) ^ (min 24 IntKind.i64.bits) = 16777216 := by decide
theorem not128 : ∀ a : Nat, a < 256 → 128 ≤ a → IntKind.u8.wrap (((BitVec.ofInt IntKind.u8.bits (a : Int)) &&& ~~~(BitVec.ofInt IntKind.u8.bits 128)).toNat : Int) = (a : Int) - 128 := by decide +kernel
/-- The number that bytes could be. -/
def num4 : List UInt8 → Int
  | [a] => if 128 ≤ a.toNat then -((a.toNat : Int) - 128) else a.toNat
  | [a, b] => if 128 ≤ b.toNat then -(a.toNat + ((b.toNat : Int) - 128) * 256) else a.toNat + b.toNat * 256
  | [a, b, c] => if 128 ≤ c.toNat then -(a.toNat + (b.toNat : Int) * 256 + ((c.toNat : Int) - 128) * 65536) else a.toNat + b.toNat * 256 + c.toNat * 65536
  | [a, b, c, d] => if 128 ≤ d.toNat then -(a.toNat + (b.toNat : Int) * 256 + (c.toNat : Int) * 65536 + ((d.toNat : Int) - 128) * 16777216) else a.toNat + b.toNat * 256 + c.toNat * 65536 + d.toNat * 16777216
  | _ => 0
def decB (l : List UInt8) : Bool := decide (l.length ≤ 4) && decide (fmB (num4 l) = l)
def decN (l : List UInt8) : Int := match decB l with | true => num4 l | false => 0
def decE (l : List UInt8) : Int := match decB l with | true => 0 | false => 110
def Dec (h : Hp) (n : Nat) (l : List UInt8) (v' : AVal) (h' : Hp) (n' : Nat) : Prop := v' = .tup [.int .i64 (decN l), .int .i64 (decE l)] ∧ Old h h' n
theorem f18 (v : AVal) (l : List UInt8) (h : Hp) (n : Nat) (hb : Bytes h v l) (hv : Below0 n v) (hlen : l.length < 1000000) : Wp (callI env (evalW env) 18 [v]) h n (Dec h n l) := by
  refine wp_callI ff18 fi18 ?_
  simp only [fu18, Try.f18, Option.getD_some, List.replicate, core1, fgr, execOp, opd, opds, ofValue, putT, put, nth, forgetL, doCall, builtin, one1, bor, binInt, shiftB, intOp, ended, resultOf, oneOrTup, List.cons_append, List.nil_append, List.length_cons, List.length_nil, Nat.reduceSub, Int.reduceNeg, gt_iff_lt, decide_true, Nat.zero_add, wp_pure, hb.bLen t22]
  by_cases h4 : 4 < ((l.length : Nat) : Int)
  · have hd : decB l = false := by unfold decB; rw [decide_eq_false (by omega)]; rfl
    simp only [core1, fgr, execOp, opd, ofValue, putT, put, nth, forgetL, Int.reduceNeg, decide_true, true_and, h4]
    exact ⟨by simp only [decN, decE, hd], Old.refl _ _⟩
  · simp only [core1, fgr, execOp, opd, opds, ofValue, putT, put, nth, forgetL, doCall, builtin, one1, Int.reduceNeg, decide_false, h4]
    match l, hb, h4 with
    | [], hb, h4 =>
      have hnum : num4 [] = 0 := rfl
      simp (maxSteps := 10000000) (disch := first | omega | exact NB _ rfl _) only [core1, fgr, hkr, execOp, opd, opds, ofValue, putT, put, nth, forgetL, doCall, callV_func, bor, binInt, shiftB, intOp, wrapI, List.nil_append, List.append_nil, List.length_nil, Int.cast_ofNat_Int, Int.reduceLT, Int.reduceNeg, decide_true, decide_false, run_loop, hb.bLen t22, w64, Int.mul_one]
      refine opv_call (f54x (0) (by omega) (by omega) h n) fun w h1 n1 hn1 ⟨hw, hwb, hold⟩ => ?_
      have hb1 := hb.old hv hold
      by_cases he : fmB (0) = []
      · have hd : decB [] = true := by unfold decB; rw [hnum, he]; simp
        simp only [core1, fgr, hkr, execOp, opd, opds, ofValue, putT, put, nth, forgetL, doCall, callV_func, unOp, List.nil_append, List.append_nil, decide_true, Bool.not_true, true_and, opv_det (f55 w v _ _ h1 n1 hw hb1), he]
        exact ⟨by simp only [decN, decE, hd, hnum], hold⟩
      · have hd : decB [] = false := by unfold decB; rw [hnum, decide_eq_false he]; simp
        simp only [core1, fgr, hkr, execOp, opd, opds, ofValue, putT, put, nth, forgetL, doCall, callV_func, unOp, List.nil_append, List.append_nil, decide_false, Bool.not_false, true_and, opv_det (f55 w v _ _ h1 n1 hw hb1), he]
        exact ⟨by simp only [decN, decE, hd], hold⟩
    | [a], hb, h4 =>
      have la := a.toNat_lt
      by_cases hg : 128 ≤ a.toNat
      · have ha := and128 a.toNat (by omega)
        rw [if_pos hg] at ha
        have hnum : num4 [a] = -(((a.toNat : Int) - 128)) := by simp only [num4, if_pos hg]
        have hm : (((a.toNat : Int) - 128)) * -1 = -(((a.toNat : Int) - 128)) := by omega
        simp (maxSteps := 10000000) (disch := first | omega | exact NB _ rfl _) only [core1, u8, tyr, fgr, hkr, execOp, opd, opds, ofValue, putT, put, nth, forgetL, doCall, callV_func, builtin, one1, und, lenOf, bor, binInt, shiftB, shiftOp, intOp, wrapI, strK, intK, doPick, branch, List.getElem?_cons_succ, List.getElem?_cons_zero, List.nil_append, List.append_nil, List.length_cons, List.length_nil, Int.cast_ofNat_Int, Int.reduceLT, Int.reduceLE, Int.reduceAdd, Int.reduceSub, Int.reduceMul, Int.reduceNeg, gt_iff_lt, decide_true, decide_false, true_and, and_self, Nat.zero_add, Int.toNat_zero, beq_self_eq_true, convert, convStr, isU8, run_loop, hb.bLen t22, hb.index t22 s5, hb.load (j := 0) ti5 rfl (by simp), List.getElem_cons_zero, or0, pw0, w64, Int.mul_one, not128, ha, hm]
        refine opv_call (f54x (-(((a.toNat : Int) - 128))) (by omega) (by omega) h n) fun w h1 n1 hn1 ⟨hw, hwb, hold⟩ => ?_
        have hb1 := hb.old hv hold
        by_cases he : fmB (-(((a.toNat : Int) - 128))) = [a]
        · have hd : decB [a] = true := by unfold decB; rw [hnum, he]; simp
          simp only [core1, fgr, hkr, execOp, opd, opds, ofValue, putT, put, nth, forgetL, doCall, callV_func, unOp, List.nil_append, List.append_nil, Int.reduceNeg, decide_true, Bool.not_true, true_and, opv_det (f55 w v _ _ h1 n1 hw hb1), he]
          exact ⟨by simp only [decN, decE, hd, hnum], hold⟩
        · have hd : decB [a] = false := by unfold decB; rw [hnum, decide_eq_false he]; simp
          simp only [core1, fgr, hkr, execOp, opd, opds, ofValue, putT, put, nth, forgetL, doCall, callV_func, unOp, List.nil_append, List.append_nil, Int.reduceNeg, decide_false, Bool.not_false, true_and, opv_det (f55 w v _ _ h1 n1 hw hb1), he]
          exact ⟨by simp only [decN, decE, hd], hold⟩
      · have ha := and128 a.toNat (by omega)
        rw [if_neg hg] at ha
        have hnum : num4 [a] = (a.toNat : Int) := by simp only [num4, if_neg hg]
        simp (maxSteps := 10000000) (disch := first | omega | exact NB _ rfl _) only [core1, u8, tyr, fgr, hkr, execOp, opd, opds, ofValue, putT, put, nth, forgetL, doCall, callV_func, builtin, one1, und, lenOf, bor, binInt, shiftB, shiftOp, intOp, wrapI, strK, intK, doPick, branch, List.getElem?_cons_succ, List.getElem?_cons_zero, List.nil_append, List.append_nil, List.length_cons, List.length_nil, Int.cast_ofNat_Int, Int.reduceLT, Int.reduceLE, Int.reduceAdd, Int.reduceSub, Int.reduceMul, Int.reduceNeg, gt_iff_lt, decide_true, decide_false, true_and, and_self, Nat.zero_add, Int.toNat_zero, beq_self_eq_true, convert, convStr, isU8, run_loop, hb.bLen t22, hb.index t22 s5, hb.load (j := 0) ti5 rfl (by simp), List.getElem_cons_zero, or0, pw0, w64, Int.mul_one, ha]
        refine opv_call (f54x ((a.toNat : Int)) (by omega) (by omega) h n) fun w h1 n1 hn1 ⟨hw, hwb, hold⟩ => ?_
        have hb1 := hb.old hv hold
        by_cases he : fmB ((a.toNat : Int)) = [a]
        · have hd : decB [a] = true := by unfold decB; rw [hnum, he]; simp
          simp only [core1, fgr, hkr, execOp, opd, opds, ofValue, putT, put, nth, forgetL, doCall, callV_func, unOp, List.nil_append, List.append_nil, decide_true, Bool.not_true, true_and, opv_det (f55 w v _ _ h1 n1 hw hb1), he]
          exact ⟨by simp only [decN, decE, hd, hnum], hold⟩
        · have hd : decB [a] = false := by unfold decB; rw [hnum, decide_eq_false he]; simp
          simp only [core1, fgr, hkr, execOp, opd, opds, ofValue, putT, put, nth, forgetL, doCall, callV_func, unOp, List.nil_append, List.append_nil, decide_false, Bool.not_false, true_and, opv_det (f55 w v _ _ h1 n1 hw hb1), he]
          exact ⟨by simp only [decN, decE, hd], hold⟩
    | [a, b], hb, h4 =>
      have la := a.toNat_lt
      have lb := b.toNat_lt
      by_cases hg : 128 ≤ b.toNat
      · have ha := and128 b.toNat (by omega)
        rw [if_pos hg] at ha
        have hnum : num4 [a, b] = -((a.toNat : Int) + ((b.toNat : Int) - 128) * 256) := by simp only [num4, if_pos hg]
        have hm : ((a.toNat : Int) + ((b.toNat : Int) - 128) * 256) * -1 = -((a.toNat : Int) + ((b.toNat : Int) - 128) * 256) := by omega
        simp (maxSteps := 10000000) (disch := first | omega | exact NB _ rfl _) only [core1, u8, tyr, fgr, hkr, execOp, opd, opds, ofValue, putT, put, nth, forgetL, doCall, callV_func, builtin, one1, und, lenOf, bor, binInt, shiftB, shiftOp, intOp, wrapI, strK, intK, doPick, branch, List.getElem?_cons_succ, List.getElem?_cons_zero, List.nil_append, List.append_nil, List.length_cons, List.length_nil, Nat.reduceAdd, Int.cast_ofNat_Int, int_beq, Int.reduceEq, Int.reduceLT, Int.reduceLE, Int.reduceAdd, Int.reduceSub, Int.reduceMul, Int.reduceNeg, gt_iff_lt, decide_true, decide_false, true_and, and_self, Nat.zero_add, Int.toNat_zero, beq_self_eq_true, convert, convStr, isU8, run_loop, Int.reduceToNat, hb.bLen t22, hb.index t22 s5, hb.load (j := 0) ti5 rfl (by simp), hb.load (j := 1) ti5 rfl (by simp), List.getElem_cons_zero, List.getElem_cons_succ, or0, or8, pw0, pw8, w64, Int.mul_one, not128, ha, hm]
        refine opv_call (f54x (-((a.toNat : Int) + ((b.toNat : Int) - 128) * 256)) (by omega) (by omega) h n) fun w h1 n1 hn1 ⟨hw, hwb, hold⟩ => ?_
        have hb1 := hb.old hv hold
        by_cases he : fmB (-((a.toNat : Int) + ((b.toNat : Int) - 128) * 256)) = [a, b]
        · have hd : decB [a, b] = true := by unfold decB; rw [hnum, he]; simp
          simp only [core1, fgr, hkr, execOp, opd, opds, ofValue, putT, put, nth, forgetL, doCall, callV_func, unOp, List.nil_append, List.append_nil, Int.reduceNeg, decide_true, Bool.not_true, true_and, opv_det (f55 w v _ _ h1 n1 hw hb1), he]
          exact ⟨by simp only [decN, decE, hd, hnum], hold⟩
        · have hd : decB [a, b] = false := by unfold decB; rw [hnum, decide_eq_false he]; simp
          simp only [core1, fgr, hkr, execOp, opd, opds, ofValue, putT, put, nth, forgetL, doCall, callV_func, unOp, List.nil_append, List.append_nil, Int.reduceNeg, decide_false, Bool.not_false, true_and, opv_det (f55 w v _ _ h1 n1 hw hb1), he]
          exact ⟨by simp only [decN, decE, hd], hold⟩
      · have ha := and128 b.toNat (by omega)
        rw [if_neg hg] at ha
        have hnum : num4 [a, b] = (a.toNat : Int) + (b.toNat : Int) * 256 := by simp only [num4, if_neg hg]
        simp (maxSteps := 10000000) (disch := first | omega | exact NB _ rfl _) only [core1, u8, tyr, fgr, hkr, execOp, opd, opds, ofValue, putT, put, nth, forgetL, doCall, callV_func, builtin, one1, und, lenOf, bor, binInt, shiftB, shiftOp, intOp, wrapI, strK, intK, doPick, branch, List.getElem?_cons_succ, List.getElem?_cons_zero, List.nil_append, List.append_nil, List.length_cons, List.length_nil, Nat.reduceAdd, Int.cast_ofNat_Int, int_beq, Int.reduceEq, Int.reduceLT, Int.reduceLE, Int.reduceAdd, Int.reduceSub, Int.reduceMul, Int.reduceNeg, gt_iff_lt, decide_true, decide_false, true_and, and_self, Nat.zero_add, Int.toNat_zero, beq_self_eq_true, convert, convStr, isU8, run_loop, Int.reduceToNat, hb.bLen t22, hb.index t22 s5, hb.load (j := 0) ti5 rfl (by simp), hb.load (j := 1) ti5 rfl (by simp), List.getElem_cons_zero, List.getElem_cons_succ, or0, or8, pw0, pw8, w64, Int.mul_one, ha]
        refine opv_call (f54x ((a.toNat : Int) + (b.toNat : Int) * 256) (by omega) (by omega) h n) fun w h1 n1 hn1 ⟨hw, hwb, hold⟩ => ?_
        have hb1 := hb.old hv hold
        by_cases he : fmB ((a.toNat : Int) + (b.toNat : Int) * 256) = [a, b]
        · have hd : decB [a, b] = true := by unfold decB; rw [hnum, he]; simp
          simp only [core1, fgr, hkr, execOp, opd, opds, ofValue, putT, put, nth, forgetL, doCall, callV_func, unOp, List.nil_append, List.append_nil, decide_true, Bool.not_true, true_and, opv_det (f55 w v _ _ h1 n1 hw hb1), he]
          exact ⟨by simp only [decN, decE, hd, hnum], hold⟩
        · have hd : decB [a, b] = false := by unfold decB; rw [hnum, decide_eq_false he]; simp
          simp only [core1, fgr, hkr, execOp, opd, opds, ofValue, putT, put, nth, forgetL, doCall, callV_func, unOp, List.nil_append, List.append_nil, decide_false, Bool.not_false, true_and, opv_det (f55 w v _ _ h1 n1 hw hb1), he]
          exact ⟨by simp only [decN, decE, hd], hold⟩
    | [a, b, c], hb, h4 =>
      have la := a.toNat_lt
      have lb := b.toNat_lt
      have lc := c.toNat_lt
      by_cases hg : 128 ≤ c.toNat
      · have ha := and128 c.toNat (by omega)
        rw [if_pos hg] at ha
        have hnum : num4 [a, b, c] = -((a.toNat : Int) + (b.toNat : Int) * 256 + ((c.toNat : Int) - 128) * 65536) := by simp only [num4, if_pos hg]
        have hm : ((a.toNat : Int) + (b.toNat : Int) * 256 + ((c.toNat : Int) - 128) * 65536) * -1 = -((a.toNat : Int) + (b.toNat : Int) * 256 + ((c.toNat : Int) - 128) * 65536) := by omega
        simp (maxSteps := 10000000) (disch := first | omega | exact NB _ rfl _) only [core1, u8, tyr, fgr, hkr, execOp, opd, opds, ofValue, putT, put, nth, forgetL, doCall, callV_func, builtin, one1, und, lenOf, bor, binInt, shiftB, shiftOp, intOp, wrapI, strK, intK, doPick, branch, List.getElem?_cons_succ, List.getElem?_cons_zero, List.nil_append, List.append_nil, List.length_cons, List.length_nil, Nat.reduceAdd, Int.cast_ofNat_Int, int_beq, Int.reduceEq, Int.reduceLT, Int.reduceLE, Int.reduceAdd, Int.reduceSub, Int.reduceMul, Int.reduceNeg, gt_iff_lt, decide_true, decide_false, true_and, and_self, Nat.zero_add, Int.toNat_zero, beq_self_eq_true, convert, convStr, isU8, run_loop, Int.reduceToNat, hb.bLen t22, hb.index t22 s5, hb.load (j := 0) ti5 rfl (by simp), hb.load (j := 1) ti5 rfl (by simp), hb.load (j := 2) ti5 rfl (by simp), List.getElem_cons_zero, List.getElem_cons_succ, or0, or8, or16, pw0, pw8, pw16, w64, Int.mul_one, not128, ha, hm]
        refine opv_call (f54x (-((a.toNat : Int) + (b.toNat : Int) * 256 + ((c.toNat : Int) - 128) * 65536)) (by omega) (by omega) h n) fun w h1 n1 hn1 ⟨hw, hwb, hold⟩ => ?_
        have hb1 := hb.old hv hold
        by_cases he : fmB (-((a.toNat : Int) + (b.toNat : Int) * 256 + ((c.toNat : Int) - 128) * 65536)) = [a, b, c]
        · have hd : decB [a, b, c] = true := by unfold decB; rw [hnum, he]; simp
          simp only [core1, fgr, hkr, execOp, opd, opds, ofValue, putT, put, nth, forgetL, doCall, callV_func, unOp, List.nil_append, List.append_nil, Int.reduceNeg, decide_true, Bool.not_true, true_and, opv_det (f55 w v _ _ h1 n1 hw hb1), he]
          exact ⟨by simp only [decN, decE, hd, hnum], hold⟩
        · have hd : decB [a, b, c] = false := by unfold decB; rw [hnum, decide_eq_false he]; simp
          simp only [core1, fgr, hkr, execOp, opd, opds, ofValue, putT, put, nth, forgetL, doCall, callV_func, unOp, List.nil_append, List.append_nil, Int.reduceNeg, decide_false, Bool.not_false, true_and, opv_det (f55 w v _ _ h1 n1 hw hb1), he]
          exact ⟨by simp only [decN, decE, hd], hold⟩
      · have ha := and128 c.toNat (by omega)
        rw [if_neg hg] at ha
        have hnum : num4 [a, b, c] = (a.toNat : Int) + (b.toNat : Int) * 256 + (c.toNat : Int) * 65536 := by simp only [num4, if_neg hg]
        simp (maxSteps := 10000000) (disch := first | omega | exact NB _ rfl _) only [core1, u8, tyr, fgr, hkr, execOp, opd, opds, ofValue, putT, put, nth, forgetL, doCall, callV_func, builtin, one1, und, lenOf, bor, binInt, shiftB, shiftOp, intOp, wrapI, strK, intK, doPick, branch, List.getElem?_cons_succ, List.getElem?_cons_zero, List.nil_append, List.append_nil, List.length_cons, List.length_nil, Nat.reduceAdd, Int.cast_ofNat_Int, int_beq, Int.reduceEq, Int.reduceLT, Int.reduceLE, Int.reduceAdd, Int.reduceSub, Int.reduceMul, Int.reduceNeg, gt_iff_lt, decide_true, decide_false, true_and, and_self, Nat.zero_add, Int.toNat_zero, beq_self_eq_true, convert, convStr, isU8, run_loop, Int.reduceToNat, hb.bLen t22, hb.index t22 s5, hb.load (j := 0) ti5 rfl (by simp), hb.load (j := 1) ti5 rfl (by simp), hb.load (j := 2) ti5 rfl (by simp), List.getElem_cons_zero, List.getElem_cons_succ, or0, or8, or16, pw0, pw8, pw16, w64, Int.mul_one, ha]
        refine opv_call (f54x ((a.toNat : Int) + (b.toNat : Int) * 256 + (c.toNat : Int) * 65536) (by omega) (by omega) h n) fun w h1 n1 hn1 ⟨hw, hwb, hold⟩ => ?_
        have hb1 := hb.old hv hold
        by_cases he : fmB ((a.toNat : Int) + (b.toNat : Int) * 256 + (c.toNat : Int) * 65536) = [a, b, c]
        · have hd : decB [a, b, c] = true := by unfold decB; rw [hnum, he]; simp
          simp only [core1, fgr, hkr, execOp, opd, opds, ofValue, putT, put, nth, forgetL, doCall, callV_func, unOp, List.nil_append, List.append_nil, decide_true, Bool.not_true, true_and, opv_det (f55 w v _ _ h1 n1 hw hb1), he]
          exact ⟨by simp only [decN, decE, hd, hnum], hold⟩
        · have hd : decB [a, b, c] = false := by unfold decB; rw [hnum, decide_eq_false he]; simp
          simp only [core1, fgr, hkr, execOp, opd, opds, ofValue, putT, put, nth, forgetL, doCall, callV_func, unOp, List.nil_append, List.append_nil, decide_false, Bool.not_false, true_and, opv_det (f55 w v _ _ h1 n1 hw hb1), he]
          exact ⟨by simp only [decN, decE, hd], hold⟩
    | [a, b, c, d], hb, h4 =>
      have la := a.toNat_lt
      have lb := b.toNat_lt
      have lc := c.toNat_lt
      have ld := d.toNat_lt
      by_cases hg : 128 ≤ d.toNat
      · have ha := and128 d.toNat (by omega)
        rw [if_pos hg] at ha
        have hnum : num4 [a, b, c, d] = -((a.toNat : Int) + (b.toNat : Int) * 256 + (c.toNat : Int) * 65536 + ((d.toNat : Int) - 128) * 16777216) := by simp only [num4, if_pos hg]
        have hm : ((a.toNat : Int) + (b.toNat : Int) * 256 + (c.toNat : Int) * 65536 + ((d.toNat : Int) - 128) * 16777216) * -1 = -((a.toNat : Int) + (b.toNat : Int) * 256 + (c.toNat : Int) * 65536 + ((d.toNat : Int) - 128) * 16777216) := by omega
        simp (maxSteps := 10000000) (disch := first | omega | exact NB _ rfl _) only [core1, u8, tyr, fgr, hkr, execOp, opd, opds, ofValue, putT, put, nth, forgetL, doCall, callV_func, builtin, one1, und, lenOf, bor, binInt, shiftB, shiftOp, intOp, wrapI, strK, intK, doPick, branch, List.getElem?_cons_succ, List.getElem?_cons_zero, List.nil_append, List.append_nil, List.length_cons, List.length_nil, Nat.reduceAdd, Int.cast_ofNat_Int, int_beq, Int.reduceEq, Int.reduceLT, Int.reduceLE, Int.reduceAdd, Int.reduceSub, Int.reduceMul, Int.reduceNeg, gt_iff_lt, decide_true, decide_false, true_and, and_self, Nat.zero_add, Int.toNat_zero, beq_self_eq_true, convert, convStr, isU8, run_loop, Int.reduceToNat, hb.bLen t22, hb.index t22 s5, hb.load (j := 0) ti5 rfl (by simp), hb.load (j := 1) ti5 rfl (by simp), hb.load (j := 2) ti5 rfl (by simp), hb.load (j := 3) ti5 rfl (by simp), List.getElem_cons_zero, List.getElem_cons_succ, or0, or8, or16, or24, pw0, pw8, pw16, pw24, w64, Int.mul_one, not128, ha, hm]
        refine opv_call (f54x (-((a.toNat : Int) + (b.toNat : Int) * 256 + (c.toNat : Int) * 65536 + ((d.toNat : Int) - 128) * 16777216)) (by omega) (by omega) h n) fun w h1 n1 hn1 ⟨hw, hwb, hold⟩ => ?_
        have hb1 := hb.old hv hold
        by_cases he : fmB (-((a.toNat : Int) + (b.toNat : Int) * 256 + (c.toNat : Int) * 65536 + ((d.toNat : Int) - 128) * 16777216)) = [a, b, c, d]
        · have hd : decB [a, b, c, d] = true := by unfold decB; rw [hnum, he]; simp
          simp only [core1, fgr, hkr, execOp, opd, opds, ofValue, putT, put, nth, forgetL, doCall, callV_func, unOp, List.nil_append, List.append_nil, Int.reduceNeg, decide_true, Bool.not_true, true_and, opv_det (f55 w v _ _ h1 n1 hw hb1), he]
          exact ⟨by simp only [decN, decE, hd, hnum], hold⟩
        · have hd : decB [a, b, c, d] = false := by unfold decB; rw [hnum, decide_eq_false he]; simp
          simp only [core1, fgr, hkr, execOp, opd, opds, ofValue, putT, put, nth, forgetL, doCall, callV_func, unOp, List.nil_append, List.append_nil, Int.reduceNeg, decide_false, Bool.not_false, true_and, opv_det (f55 w v _ _ h1 n1 hw hb1), he]
          exact ⟨by simp only [decN, decE, hd], hold⟩
      · have ha := and128 d.toNat (by omega)
        rw [if_neg hg] at ha
        have hnum : num4 [a, b, c, d] = (a.toNat : Int) + (b.toNat : Int) * 256 + (c.toNat : Int) * 65536 + (d.toNat : Int) * 16777216 := by simp only [num4, if_neg hg]
        simp (maxSteps := 10000000) (disch := first | omega | exact NB _ rfl _) only [core1, u8, tyr, fgr, hkr, execOp, opd, opds, ofValue, putT, put, nth, forgetL, doCall, callV_func, builtin, one1, und, lenOf, bor, binInt, shiftB, shiftOp, intOp, wrapI, strK, intK, doPick, branch, List.getElem?_cons_succ, List.getElem?_cons_zero, List.nil_append, List.append_nil, List.length_cons, List.length_nil, Nat.reduceAdd, Int.cast_ofNat_Int, int_beq, Int.reduceEq, Int.reduceLT, Int.reduceLE, Int.reduceAdd, Int.reduceSub, Int.reduceMul, Int.reduceNeg, gt_iff_lt, decide_true, decide_false, true_and, and_self, Nat.zero_add, Int.toNat_zero, beq_self_eq_true, convert, convStr, isU8, run_loop, Int.reduceToNat, hb.bLen t22, hb.index t22 s5, hb.load (j := 0) ti5 rfl (by simp), hb.load (j := 1) ti5 rfl (by simp), hb.load (j := 2) ti5 rfl (by simp), hb.load (j := 3) ti5 rfl (by simp), List.getElem_cons_zero, List.getElem_cons_succ, or0, or8, or16, or24, pw0, pw8, pw16, pw24, w64, Int.mul_one, ha]
        refine opv_call (f54x ((a.toNat : Int) + (b.toNat : Int) * 256 + (c.toNat : Int) * 65536 + (d.toNat : Int) * 16777216) (by omega) (by omega) h n) fun w h1 n1 hn1 ⟨hw, hwb, hold⟩ => ?_
        have hb1 := hb.old hv hold
        by_cases he : fmB ((a.toNat : Int) + (b.toNat : Int) * 256 + (c.toNat : Int) * 65536 + (d.toNat : Int) * 16777216) = [a, b, c, d]
        · have hd : decB [a, b, c, d] = true := by unfold decB; rw [hnum, he]; simp
          simp only [core1, fgr, hkr, execOp, opd, opds, ofValue, putT, put, nth, forgetL, doCall, callV_func, unOp, List.nil_append, List.append_nil, decide_true, Bool.not_true, true_and, opv_det (f55 w v _ _ h1 n1 hw hb1), he]
          exact ⟨by simp only [decN, decE, hd, hnum], hold⟩
        · have hd : decB [a, b, c, d] = false := by unfold decB; rw [hnum, decide_eq_false he]; simp
          simp only [core1, fgr, hkr, execOp, opd, opds, ofValue, putT, put, nth, forgetL, doCall, callV_func, unOp, List.nil_append, List.append_nil, decide_false, Bool.not_false, true_and, opv_det (f55 w v _ _ h1 n1 hw hb1), he]
          exact ⟨by simp only [decN, decE, hd], hold⟩
    | a :: b :: c :: d :: e :: l, hb, h4 => exact absurd h4 (by simp; omega)
/- Elements of stacks; copies of bytes and of lists. -/
def El (h : Hp) (D : Nat → Prop) (x : AVal) (l : List UInt8) : Prop := Bytes h x l ∧ ∀ j, ownId x = some j → D j
theorem El.mono {h h' : Hp} {D D' : Nat → Prop} {x : AVal} {l : List UInt8} (he : El h D x l) (hd : ∀ j, D j → D' j) (hk : ∀ j, D j → h' j = h j) : El h' D' x l :=
  ⟨he.1.keep fun j hj => hk j (he.2 j hj), fun j hj => hd j (he.2 j hj)⟩
structure Els (h : Hp) (D : Nat → Prop) (xs : List AVal) (ls : List (List UInt8)) : Prop where
  len : xs.length = ls.length
  at_ : ∀ (j : Nat) x l, xs[j]? = some x → ls[j]? = some l → El h D x l
theorem Els.nil (h : Hp) (D : Nat → Prop) : Els h D [] [] := ⟨rfl, fun j x l hx => by simp at hx⟩
theorem Els.mono {h h' : Hp} {D D' : Nat → Prop} {xs : List AVal} {ls : List (List UInt8)} (he : Els h D xs ls) (hd : ∀ j, D j → D' j) (hk : ∀ j, D j → h' j = h j) : Els h' D' xs ls :=
  ⟨he.len, fun j x l hx hl => (he.at_ j x l hx hl).mono hd hk⟩
theorem Els.app {h : Hp} {D : Nat → Prop} {xs ys : List AVal} {ls ms : List (List UInt8)} (a : Els h D xs ls) (b : Els h D ys ms) : Els h D (xs ++ ys) (ls ++ ms) := by
  refine ⟨by rw [List.length_append, List.length_append, a.len, b.len], fun j x l hx hl => ?_⟩
  by_cases c : j < xs.length
  · rw [List.getElem?_append_left c] at hx
    rw [List.getElem?_append_left (by rw [← a.len]; exact c)] at hl
    exact a.at_ j x l hx hl
  · rw [List.getElem?_append_right (by omega)] at hx
    rw [List.getElem?_append_right (by rw [← a.len]; omega), ← a.len] at hl
    exact b.at_ _ x l hx hl
theorem Els.take {h : Hp} {D : Nat → Prop} {xs : List AVal} {ls : List (List UInt8)} (a : Els h D xs ls) (k : Nat) : Els h D (xs.take k) (ls.take k) := by
  refine ⟨by rw [List.length_take, List.length_take, a.len], fun j x l hx hl => ?_⟩
  rw [List.getElem?_take] at hx hl
  split at hx
  · rw [if_pos (by assumption)] at hl; exact a.at_ j x l hx hl
  · cases hx
theorem Els.drop {h : Hp} {D : Nat → Prop} {xs : List AVal} {ls : List (List UInt8)} (a : Els h D xs ls) (k : Nat) : Els h D (xs.drop k) (ls.drop k) := by
  refine ⟨by rw [List.length_drop, List.length_drop, a.len], fun j x l hx hl => ?_⟩
  rw [List.getElem?_drop] at hx hl
  exact a.at_ _ x l hx hl
theorem Els.one {h : Hp} {D : Nat → Prop} {x : AVal} {l : List UInt8} (he : El h D x l) : Els h D [x] [l] :=
  ⟨rfl, fun j y m hy hm => by
    cases j with
    | zero => simp at hy hm; subst hy; subst hm; exact he
    | succ j => simp at hy⟩
theorem Els.get {h : Hp} {D : Nat → Prop} {xs : List AVal} {ls : List (List UInt8)} (a : Els h D xs ls) {j : Nat} (hj : j < ls.length) : ∃ x, xs[j]? = some x ∧ El h D x ls[j] := by
  have hx : j < xs.length := by rw [a.len]; exact hj
  exact ⟨xs[j], List.getElem?_eq_getElem hx, a.at_ j _ _ (List.getElem?_eq_getElem hx) (List.getElem?_eq_getElem hj)⟩
theorem Els.cells {h : Hp} {D : Nat → Prop} {xs : List AVal} {ls : List (List UInt8)} (a : Els h D xs ls) : xs.all oneCell = true := by
  refine all_of fun j x hx => ?_
  have hj := (List.getElem?_eq_some_iff.1 hx).1
  have := a.at_ j x _ hx (List.getElem?_eq_getElem (by rw [← a.len]; exact hj))
  exact this.1.kind.2.1
theorem u53 : und env 53 = M.pure (.slice 22) := rfl
theorem s22 : sizeOf env 22 = M.pure 1 := rfl
theorem bs22 (x : AVal) (hx : x.cells = [x] ∧ oneCell x = true ∧ isJunk x = false) : buildSlice env 53 1 [(0, x)] = (newRow env 22 [x]).bind fun id => M.pure (.sl id 0 1 (some 1) 1) := by
  cases x with
  | agg l => cases hx.2.1
  | tup l => cases hx.2.1
  | junk => cases hx.2.1
  | _ => rfl
/-- A copy of bytes. -/
theorem f64 (v : AVal) (l : List UInt8) (h : Hp) (n : Nat) (hb : Bytes h v l) (hl : l.length ≤ 1000000) (hf : Free h n) : Wp (callI env (evalW env) 64 [v]) h n fun v' h' n' => Bytes h' v' l ∧ (∀ j, ownId v' = some j → n ≤ j ∧ j < n') ∧ Old h h' n := by
  refine wp_callI ff64 fi64 ?_
  simp only [fu64, Try.f64, Option.getD_some, List.replicate, core1, fgr, execOp, opd, ofValue, putT, put, nth, forgetL, ended, resultOf, oneOrTup, List.cons_append, List.nil_append, List.length_cons, List.length_nil, Nat.reduceSub, Nat.zero_add, wp_pure, hb.eqNil t22]
  cases hnil : isNils v with
  | true =>
    simp only [core1, fgr, execOp, opd, ofValue, putT, put, nth, forgetL, true_and]
    have := hb.nil.2 hnil
    subst this
    exact ⟨.nils, (fun j hj => by cases hj), Old.refl _ _⟩
  | false =>
    simp only [core1, tyr, execOp, opd, opds, ops2, putT, put, nth, doCall, builtin, two2, und, newRow, getO, Nat.zero_mul, buildSlice, reps, fill, Nat.ble, Nat.zero_mul]
    refine opv_lst_append (i := ⟨.int .u8, 1, 1, .int .u8 0⟩) (e := 5) (cnt := 0) (xs := []) (lst_new (upd_same _ _ _) rfl (fun k hk => by injection hk with hk; exact hk.symm)) ((hb.keep fun j hj => ?_).rds) t22 t22 ti5 (u8_one l) (by decide) (by show 2 * (0 + l.length) * 1 ≤ _; omega) (by omega) hf.new ?_
    · rw [upd_ne]
      intro e
      cases hb with
      | nils => cases hj
      | isl => cases hj
      | sl id off cap c e2 l hh hs hc => injection hj with hj; subst hj; subst e; rw [hf _ (Nat.le_refl _)] at hh; cases hh
    · intro v' h' n' hn hf' ho hid hold
      simp only [core1, fgr, execOp, opd, putT, put, nth, forgetL, true_and]
      rw [List.nil_append] at ho
      refine ⟨ho.rds.bytes (by intro e; subst e; cases ho), fun j hj => ?_, fun j hj => ?_⟩
      · rcases hid with q | ⟨q, q2⟩
        · rw [q] at hj; injection hj with hj; subst hj; exact ⟨Nat.le_refl _, by omega⟩
        · rw [q] at hj; injection hj with hj; omega
      · rw [hold j (by omega) (fun e => by injection e with e; omega), upd_ne _ _ (by omega)]
/-- A copy of a list. -/
theorem f68 (v : AVal) (cnt : Nat) (xs : List AVal) (h : Hp) (n : Nat) (hv : Rds h 1 v cnt xs) (he : binOp env .eql 53 v .nils = M.pure (.bool (isNils v))) (hnl : isNils v = true → xs = []) (hx : xs.all oneCell = true) (hb : ∀ j, ownId v = some j → j < n) (hl : cnt ≤ 100000) (hf : Free h n) :
    Wp (callI env (evalW env) 68 [v]) h n fun v' h' n' => Lst h' 22 1 v' cnt xs ∧ (∀ j, ownId v' = some j → n ≤ j ∧ j < n') ∧ Old h h' n := by
  refine wp_callI ff68 fi68 ?_
  simp only [fu68, Try.f68, Option.getD_some, List.replicate, core1, fgr, execOp, opd, ofValue, putT, put, nth, forgetL, ended, resultOf, oneOrTup, List.cons_append, List.nil_append, List.length_cons, List.length_nil, Nat.reduceSub, Nat.zero_add, wp_pure, he]
  cases hnil : isNils v with
  | true =>
    simp only [core1, fgr, execOp, opd, ofValue, putT, put, nth, forgetL, true_and]
    have := hnl hnil
    subst this
    have h0 := hv.length
    have : cnt = 0 := by simpa using h0.symm
    subst this
    exact ⟨.nil, (fun j hj => by cases hj), Old.refl _ _⟩
  | false =>
    simp only [core1, tyr, execOp, opd, opds, ops2, putT, put, nth, doCall, builtin, two2, und, newRow, getO, Nat.zero_mul, buildSlice, reps, fill, Nat.ble, Nat.zero_mul]
    refine opv_lst_append (i := ⟨.slice 5, 1, 24, .nils⟩) (e := 22) (cnt := 0) (xs := []) (lst_new (upd_same _ _ _) rfl (fun k hk => by injection hk with hk; exact hk.symm)) (hv.keep fun j hj => upd_ne _ _ (by have := hb j hj; omega)) u53 u53 ti22 hx (by decide) (by show 2 * (0 + cnt) * 24 ≤ _; omega) (by omega) hf.new ?_
    intro v' h' n' hn hf' ho hid hold
    simp only [core1, fgr, execOp, opd, putT, put, nth, forgetL, true_and]
    rw [List.nil_append, Nat.zero_add] at ho
    refine ⟨ho, fun j hj => ?_, fun j hj => ?_⟩
    · rcases hid with q | ⟨q, q2⟩
      · rw [q] at hj; injection hj with hj; subst hj; exact ⟨Nat.le_refl _, by omega⟩
      · rw [q] at hj; injection hj with hj; omega
    · rw [hold j (by omega) (fun e => by injection e with e; omega), upd_ne _ _ (by omega)]
/-- A cell that holds a list is read, and written. -/
theorem f66 (p o : Nat) (v : AVal) (cs : List AVal) (cnt : Nat) (xs : List AVal) (h : Hp) (n : Nat) (hr : Row h p cs) (hc : cs[o]? = some v) (hv : Rds h 1 v cnt xs) : Wp (callI env (evalW env) 66 [.ptr p o]) h n fun v' h' n' => v' = .int .i64 (cnt : Nat) ∧ h' = h ∧ n' = n := by
  refine wp_callI ff66 fi66 ?_
  simp only [fu66, Try.f66, Option.getD_some, List.replicate, core1, tyr, fgr, execOp, opd, ofValue, putT, put, nth, forgetL, und, sizeOf, nilCheck, getO, ended, resultOf, oneOrTup, moved, fieldAddr, List.getElem?_cons_zero, List.cons_append, List.nil_append, List.length_cons, List.length_nil, Nat.reduceSub, Nat.zero_add, Nat.add_zero, wp_pure]
  rw [opv_rd (hr.one hc ti53 rfl)]
  simp only [core1, fgr, execOp, opd, opds, putT, put, nth, forgetL, doCall, builtin, one1, and_self, hv.bLen u53]
theorem f63 (p o : Nat) (s x : AVal) (cs : List AVal) (cnt k : Nat) (xs ys : List AVal) (h : Hp) (n : Nat) (hr : ∃ e, h p = some (.row (.l cs) e)) (hc : cs[o]? = some s) (hs : Lst h 22 1 s cnt xs) (hx : Rds h 1 x k ys) (hy : ys.all oneCell = true) (hp : p < n) (hps : ownId s ≠ some p) (hk : cnt + k ≤ 100000) (hf : Free h n) :
    Wp (callI env (evalW env) 63 [.ptr p o, x]) h n fun v' h' n' => v' = .tup [] ∧ ∃ s', Lst h' 22 1 s' (cnt + k) (xs ++ ys) ∧ Row h' p (splice cs o [s']) ∧ (ownId s' = ownId s ∨ ownId s' = some n ∧ n < n') ∧ (∀ j, j < n → j ≠ p → ownId s ≠ some j → h' j = h j) ∧ Free h' n' ∧ n ≤ n' := by
  obtain ⟨e, he⟩ := hr
  have ho : o < cs.length := (List.getElem?_eq_some_iff.1 hc).1
  refine wp_callI ff63 fi63 ?_
  simp only [fu63, Try.f63, Option.getD_some, List.replicate, core1, tyr, execOp, opd, putT, put, nth, und, sizeOf, nilCheck, getO, ended, resultOf, oneOrTup, moved, fieldAddr, List.getElem?_cons_zero, List.cons_append, List.nil_append, List.length_cons, List.length_nil, Nat.reduceAdd, Nat.reduceSub, true_and, Nat.zero_add, Nat.add_zero, wp_pure]
  rw [opv_rd (Row.one ⟨e, he⟩ hc ti53 rfl)]
  simp only [core1, execOp, opd, opds, putT, put, nth, doCall, builtin, two2]
  refine opv_lst_append (i := ⟨.slice 5, 1, 24, .nils⟩) (e := 22) hs hx u53 u53 ti22 hy (by decide) (by show 2 * (cnt + k) * 24 ≤ _; omega) (by omega) hf ?_
  intro s' h1 n1 hn hf1 hl hid hold
  have he1 : h1 p = some (.row (.l cs) e) := by rw [hold p hp hps]; exact he
  have hpn : ownId s' ≠ some p := fun q => by
    rcases hid with r | ⟨r, _⟩
    · rw [r] at q; exact hps q
    · rw [r] at q; injection q with q; omega
  simp only [core1, tyr, execOp, opd, putT, put, nth, und, sizeOf, nilCheck, getO, moved, fieldAddr, List.getElem?_cons_zero, Nat.add_zero]
  rw [opv_wr (Row.write he1 ti53 (by rw [hl.rds.kind.1]; rfl) (by show o + 1 ≤ _; omega) (by rw [hl.rds.kind.1]; simp [hl.rds.kind.2.1]))]
  simp only [core1, fgr, putT, forgetL, true_and]
  rw [hl.rds.kind.1]
  refine ⟨s', hl.keep fun j hj => upd_ne _ _ (fun q => hpn (by rw [hj, q])), Row.new _ _ _ _, hid, fun j hj h1' h2' => ?_, hf1.upd (by omega), hn⟩
  rw [upd_ne _ _ h1']; exact hold j hj h2'
theorem f72 (p o k : Nat) (s : AVal) (cs : List AVal) (cnt : Nat) (xs : List AVal) (h : Hp) (n : Nat) (hr : ∃ e, h p = some (.row (.l cs) e)) (hc : cs[o]? = some s) (hs : Lst h 22 1 s cnt xs) (hx : xs.all oneCell = true) (hp : p < n) (hps : ownId s ≠ some p) (hk : k ≤ cnt) (hcn : cnt ≤ 100000) (hf : Free h n) :
    Wp (callI env (evalW env) 72 [.ptr p o, .int .i64 (k : Nat)]) h n fun v' h' n' => Lst h' 22 1 v' k (xs.drop (cnt - k)) ∧ (∀ j, ownId v' = some j → n ≤ j ∧ j < n') ∧ Row h' p (splice cs o [cutOf (cnt - k) s]) ∧ Lst h' 22 1 (cutOf (cnt - k) s) (cnt - k) (xs.take (cnt - k)) ∧ (∀ j, j < n → j ≠ p → h' j = h j) ∧ Free h' n' ∧ n ≤ n' := by
  obtain ⟨e, he⟩ := hr
  have ho : o < cs.length := (List.getElem?_eq_some_iff.1 hc).1
  have hxl := hs.rds.length
  refine wp_callI ff72 fi72 ?_
  have w1 : IntKind.i64.wrap (((cnt : Nat) : Int) - ((k : Nat) : Int)) = ((cnt - k : Nat) : Int) := by rw [w64 (by omega) (by omega)]; omega
  simp only [fu72, Try.f72, Option.getD_some, List.replicate, core1, tyr, fgr, execOp, opd, ofValue, putT, put, nth, forgetL, und, sizeOf, nilCheck, getO, ended, resultOf, oneOrTup, moved, fieldAddr, List.getElem?_cons_zero, List.cons_append, List.nil_append, List.length_cons, List.length_nil, Nat.reduceAdd, Nat.reduceSub, Nat.zero_add, Nat.add_zero, wp_pure]
  rw [opv_rd (Row.one ⟨e, he⟩ hc ti53 rfl)]
  simp only [core1, tyr, fgr, execOp, opd, opds, putT, put, nth, forgetL, doCall, builtin, one1, und, sizeOf, bor, binInt, shiftB, intOp, wrapI, nilCheck, getO, moved, fieldAddr, List.getElem?_cons_zero, decide_true, Nat.add_zero, hs.rds.bLen u53, w1]
  rw [opv_rd (Row.one ⟨e, he⟩ hc ti53 rfl)]
  simp only [core1, execOp, opd, opt, putT, put, nth]
  rw [opv_rd (hs.rds.tail_rd u53 s22 rfl (by omega))]
  simp only [core1, hkr, execOp, opd, opds, putT, put, nth, doCall, callV_func, List.nil_append, List.append_nil]
  have hsub := hs.rds.sub (lo := cnt - k) (hi := cnt) (by omega) (Nat.le_refl _)
  have e1 : cnt - (cnt - k) = k := by omega
  rw [e1, Nat.mul_one, Nat.mul_one, List.take_of_length_le (by rw [List.length_drop]; omega)] at hsub
  have hsx : (xs.drop (cnt - k)).all oneCell = true := by
    rw [List.all_eq_true] at hx ⊢
    exact fun x hxx => hx x (List.mem_of_mem_drop hxx)
  have hnl : isNils (subOf (cnt - k) cnt s) = isNils s := by cases hs <;> rfl
  have heq : binOp env .eql 53 (subOf (cnt - k) cnt s) .nils = M.pure (.bool (isNils (subOf (cnt - k) cnt s))) := by
    cases hs with
    | nil => exact (Lst.nil (h := h) (e := 22) (sz := 1)).eqNil u53 |>.1
    | sl id cnt cap cells xs hh hl hc hx =>
      show binOther env .eql 53 (.sl _ _ _ _ _) .nils = _
      unfold binOther
      simp only
      rw [sl_nil (nilSl2 _ _ _ _ _) u53]; rfl
  refine opv_callf hf (f68 _ k _ h n hsub heq (fun q => ?_) hsx (fun j hj => ?_) (by omega) hf) fun v2 h2 n2 hn2 hf2 ⟨hl2, hid2, hold2⟩ => ?_
  · rw [hnl] at q
    have := (hs.eqNil (E := env) u53).2 q
    rw [this.2.2, List.drop_nil]
  · rw [sub_id] at hj; exact hs.live hf hj
  have he2 : h2 p = some (.row (.l cs) e) := by rw [hold2 p hp]; exact he
  have hs2 : Lst h2 22 1 s cnt xs := hs.keep fun j hj => hold2 j (hs.live hf hj)
  have hcut := hs2.cut (a := cnt - k) (by omega)
  rw [Nat.mul_one] at hcut
  simp only [core1, tyr, fgr, execOp, opd, putT, put, nth, forgetL, und, sizeOf, nilCheck, getO, moved, fieldAddr, List.getElem?_cons_zero, Nat.add_zero]
  rw [opv_rd (Row.one ⟨e, he2⟩ hc ti53 rfl)]
  simp only [core1, execOp, opd, opt, putT, put, nth]
  rw [opv_rd (hs2.cut_rd u53 s22 rfl (by omega))]
  simp only [core1, tyr, execOp, opd, putT, put, nth, und, sizeOf, nilCheck, getO, moved, fieldAddr, List.getElem?_cons_zero, Nat.add_zero]
  rw [opv_wr (Row.write he2 ti53 (by rw [hcut.rds.kind.1]; rfl) (by show o + 1 ≤ _; omega) (by rw [hcut.rds.kind.1]; simp [hcut.rds.kind.2.1]))]
  simp only [core1, fgr, execOp, opd, putT, put, nth, forgetL, true_and]
  rw [hcut.rds.kind.1]
  refine ⟨hl2.keep fun j hj => upd_ne _ _ (fun q => by have := (hid2 j hj).1; omega), hid2, Row.new _ _ _ _, hcut.keep fun j hj => upd_ne _ _ (fun q => ?_), fun j hj h1' => ?_, hf2.upd (by omega), hn2⟩
  · rw [cut_id] at hj; exact hps (by rw [hj, q])
  · rw [upd_ne _ _ h1']; exact hold2 j hj
/- The element so far below the top: two rounds, one within the other. -/
noncomputable def L71 (tm : List AVal) : ALoop := { state := .ready, pending := none, fn := 71, tmps := tm, params := [10, 11], assign := ra71_0, body := rb71_0 }
noncomputable def L107 (tm : List AVal) : ALoop := { state := .ready, pending := none, fn := 107, tmps := tm, params := [10, 11], assign := ra107_0, body := rb107_0 }
/-- Memory during the rounds. -/
structure Inv (h : Hp) (n p o : Nat) (k cnt : Nat) (v : AVal) (cs xs : List AVal) (r : AVal) (la lb : ALoop) : Prop where
  ik : h n = some (.row (.l [.int .i64 (k : Nat)]) 3)
  ir : h (n + 1) = some (.row (.l [r]) 22)
  ip : h (n + 1 + 1) = some (.row (.l [.ptr p o]) 113)
  ia : h (n + 1 + 1 + 1) = some (.loop la)
  iy : h (n + 1 + 1 + 1 + 1) = some (.row (.l [.fn (.yield (n + 1 + 1 + 1)) [] []]) 126)
  il : h (n + 1 + 1 + 1 + 1 + 1) = some (.row (.l [v]) 53)
  ib : h (n + 1 + 1 + 1 + 1 + 1 + 1) = some (.loop lb)
  is_ : Row h p cs
  ic : cs[o]? = some v
  iv : Rds h 1 v cnt xs
  hp : p < n
  hv : ∀ j, ownId v = some j → j < n
  nx : ∀ j, n + 1 + 1 + 1 + 1 + 1 + 1 + 1 ≤ j → h j = none
theorem Inv.upd {h : Hp} {n p o k cnt : Nat} {v r : AVal} {cs xs : List AVal} {la lb : ALoop} (hi : Inv h n p o k cnt v cs xs r la lb) {i : Nat} {b : Option Blk} {r' : AVal} {la' lb' : ALoop} (h1 : n < i) (h2 : i ≠ n + 1 + 1) (h3 : i ≠ n + 1 + 1 + 1 + 1) (h4 : i ≠ n + 1 + 1 + 1 + 1 + 1) (h5 : i < n + 1 + 1 + 1 + 1 + 1 + 1 + 1)
    (e1 : if i = n + 1 then b = some (.row (.l [r']) 22) else r' = r) (e2 : if i = n + 1 + 1 + 1 then b = some (.loop la') else la' = la) (e3 : if i = n + 1 + 1 + 1 + 1 + 1 + 1 then b = some (.loop lb') else lb' = lb) :
    Inv (Go.Am.upd h i b) n p o k cnt v cs xs r' la' lb' where
  ik := by rw [upd_ne _ _ (by omega)]; exact hi.ik
  ir := by
    split at e1
    · rename_i q; subst q; rw [upd_same]; exact e1
    · rw [upd_ne _ _ (by omega), e1]; exact hi.ir
  ip := by rw [upd_ne _ _ (by omega)]; exact hi.ip
  ia := by
    split at e2
    · rename_i q; subst q; rw [upd_same]; exact e2
    · rw [upd_ne _ _ (by omega), e2]; exact hi.ia
  iy := by rw [upd_ne _ _ (by omega)]; exact hi.iy
  il := by rw [upd_ne _ _ (by omega)]; exact hi.il
  ib := by
    split at e3
    · rename_i q; subst q; rw [upd_same]; exact e3
    · rw [upd_ne _ _ (by omega), e3]; exact hi.ib
  is_ := hi.is_.upd (by have := hi.hp; omega)
  ic := hi.ic
  iv := hi.iv.keep fun j hj => upd_ne _ _ (by have := hi.hv j hj; omega)
  hp := hi.hp
  hv := hi.hv
  nx := fun j hj => by rw [upd_ne _ _ (by omega)]; exact hi.nx j hj
theorem Inv.setA {h : Hp} {n p o k cnt : Nat} {v r : AVal} {cs xs : List AVal} {la lb : ALoop} (hi : Inv h n p o k cnt v cs xs r la lb) (l : ALoop) : Inv (Go.Am.upd h (n + 1 + 1 + 1) (some (.loop l))) n p o k cnt v cs xs r l lb :=
  hi.upd (by omega) (by omega) (by omega) (by omega) (by omega) (by rw [if_neg (by omega)]) (by rw [if_pos rfl]) (by rw [if_neg (by omega)])
theorem Inv.setB {h : Hp} {n p o k cnt : Nat} {v r : AVal} {cs xs : List AVal} {la lb : ALoop} (hi : Inv h n p o k cnt v cs xs r la lb) (l : ALoop) : Inv (Go.Am.upd h (n + 1 + 1 + 1 + 1 + 1 + 1) (some (.loop l))) n p o k cnt v cs xs r la l :=
  hi.upd (by omega) (by omega) (by omega) (by omega) (by omega) (by rw [if_neg (by omega)]) (by rw [if_neg (by omega)]) (by rw [if_pos rfl])
theorem Inv.setR {h : Hp} {n p o k cnt : Nat} {v r : AVal} {cs xs : List AVal} {la lb : ALoop} (hi : Inv h n p o k cnt v cs xs r la lb) (x : AVal) : Inv (Go.Am.upd h (n + 1) (some (.row (.l [x]) 22))) n p o k cnt v cs xs x la lb :=
  hi.upd (by omega) (by omega) (by omega) (by omega) (by omega) (by rw [if_pos rfl]) (by rw [if_neg (by omega)]) (by rw [if_neg (by omega)])
set_option maxHeartbeats 8000000 in
theorem loop110 (Q : Post0) (ks : List Kf) (n p o k cnt : Nat) (v : AVal) (cs xs : List AVal) (x1 x4 x6 x7 x9 x10 x11 x14 : AVal) (y3 y4 y9 y10 y11 y23 : AVal) (h0 : Hp) (x : AVal) (hk : k < cnt) (hcnt : cnt ≤ 100000) (hx : xs[cnt - 1 - k]? = some x) (hxk : x.cells = [x] ∧ oneCell x = true ∧ isJunk x = false)
    (hq : ∀ (h : Hp) tm, Inv h n p o k cnt v cs xs x { L71 (.ptr p o :: x1 :: AVal.junk :: .ptr n 0 :: x4 :: .ptr (n + 1) 0 :: x6 :: x7 :: AVal.junk :: x9 :: x10 :: x11 :: AVal.junk :: AVal.junk :: x14 :: AVal.junk :: AVal.junk :: []) with state := .done, pending := some (.exit 0) } { L107 (.fn (.yield (n + 1 + 1 + 1)) [] [] :: .ptr (n + 1 + 1) 0 :: .ptr (n + 1 + 1 + 1 + 1) 0 :: y3 :: y4 :: AVal.junk :: AVal.junk :: AVal.junk :: AVal.junk :: y9 :: y10 :: y11 :: AVal.junk :: AVal.junk :: AVal.junk :: AVal.junk :: AVal.junk :: AVal.junk :: AVal.junk :: AVal.junk :: AVal.junk :: AVal.junk :: AVal.junk :: y23 :: []) with state := .done, pending := some .ret } → Old h0 h n → Kont env 110 none Q ks .ret tm h (n + 1 + 1 + 1 + 1 + 1 + 1 + 1)) :
    ∀ (m i : Nat) (h : Hp) (z8 z18 : AVal), i = cnt - 1 - k + m → i < cnt → Inv h n p o k cnt v cs xs .nils (L71 (.ptr p o :: x1 :: AVal.junk :: .ptr n 0 :: x4 :: .ptr (n + 1) 0 :: x6 :: x7 :: AVal.junk :: x9 :: x10 :: x11 :: AVal.junk :: AVal.junk :: x14 :: AVal.junk :: AVal.junk :: [])) (L107 (.fn (.yield (n + 1 + 1 + 1)) [] [] :: .ptr (n + 1 + 1) 0 :: .ptr (n + 1 + 1 + 1 + 1) 0 :: y3 :: y4 :: AVal.junk :: AVal.junk :: AVal.junk :: AVal.junk :: y9 :: y10 :: y11 :: AVal.junk :: AVal.junk :: AVal.junk :: AVal.junk :: AVal.junk :: AVal.junk :: AVal.junk :: AVal.junk :: AVal.junk :: AVal.junk :: AVal.junk :: y23 :: [])) → Old h0 h n →
    Run env 110 none Q (.loop lp110_0) ks (.fn (.yield (n + 1 + 1 + 1 + 1 + 1 + 1)) [] [] :: .ptr (n + 1 + 1 + 1 + 1 + 1) 0 :: AVal.junk :: .int .i64 (i : Nat) :: AVal.junk :: AVal.junk :: AVal.junk :: AVal.junk :: z8 :: AVal.junk :: AVal.junk :: AVal.junk :: AVal.junk :: AVal.junk :: AVal.junk :: AVal.junk :: AVal.junk :: AVal.junk :: z18 :: []) h (n + 1 + 1 + 1 + 1 + 1 + 1 + 1) := by
  have main : ∀ (i : Nat) (h : Hp) (z8 z18 : AVal) (xi : AVal), i < cnt → xs[i]? = some xi → Inv h n p o k cnt v cs xs .nils (L71 (.ptr p o :: x1 :: AVal.junk :: .ptr n 0 :: x4 :: .ptr (n + 1) 0 :: x6 :: x7 :: AVal.junk :: x9 :: x10 :: x11 :: AVal.junk :: AVal.junk :: x14 :: AVal.junk :: AVal.junk :: [])) (L107 (.fn (.yield (n + 1 + 1 + 1)) [] [] :: .ptr (n + 1 + 1) 0 :: .ptr (n + 1 + 1 + 1 + 1) 0 :: y3 :: y4 :: AVal.junk :: AVal.junk :: AVal.junk :: AVal.junk :: y9 :: y10 :: y11 :: AVal.junk :: AVal.junk :: AVal.junk :: AVal.junk :: AVal.junk :: AVal.junk :: AVal.junk :: AVal.junk :: AVal.junk :: AVal.junk :: AVal.junk :: y23 :: [])) → Old h0 h n →
    (i = cnt - 1 - k ∨ 1 ≤ i ∧ ∀ (h : Hp) (z8 z18 : AVal), Inv h n p o k cnt v cs xs .nils (L71 (.ptr p o :: x1 :: AVal.junk :: .ptr n 0 :: x4 :: .ptr (n + 1) 0 :: x6 :: x7 :: AVal.junk :: x9 :: x10 :: x11 :: AVal.junk :: AVal.junk :: x14 :: AVal.junk :: AVal.junk :: [])) (L107 (.fn (.yield (n + 1 + 1 + 1)) [] [] :: .ptr (n + 1 + 1) 0 :: .ptr (n + 1 + 1 + 1 + 1) 0 :: y3 :: y4 :: AVal.junk :: AVal.junk :: AVal.junk :: AVal.junk :: y9 :: y10 :: y11 :: AVal.junk :: AVal.junk :: AVal.junk :: AVal.junk :: AVal.junk :: AVal.junk :: AVal.junk :: AVal.junk :: AVal.junk :: AVal.junk :: AVal.junk :: y23 :: [])) → Old h0 h n →
      Run env 110 none Q (.loop lp110_0) ks (.fn (.yield (n + 1 + 1 + 1 + 1 + 1 + 1)) [] [] :: .ptr (n + 1 + 1 + 1 + 1 + 1) 0 :: AVal.junk :: .int .i64 ((i - 1 : Nat) : Int) :: AVal.junk :: AVal.junk :: AVal.junk :: AVal.junk :: z8 :: AVal.junk :: AVal.junk :: AVal.junk :: AVal.junk :: AVal.junk :: AVal.junk :: AVal.junk :: AVal.junk :: AVal.junk :: z18 :: []) h (n + 1 + 1 + 1 + 1 + 1 + 1 + 1)) →
    Run env 110 none Q (.loop lp110_0) ks (.fn (.yield (n + 1 + 1 + 1 + 1 + 1 + 1)) [] [] :: .ptr (n + 1 + 1 + 1 + 1 + 1) 0 :: AVal.junk :: .int .i64 (i : Nat) :: AVal.junk :: AVal.junk :: AVal.junk :: AVal.junk :: z8 :: AVal.junk :: AVal.junk :: AVal.junk :: AVal.junk :: AVal.junk :: AVal.junk :: AVal.junk :: AVal.junk :: AVal.junk :: z18 :: []) h (n + 1 + 1 + 1 + 1 + 1 + 1 + 1) := by
    intro i h z8 z18 xi hic hxi iv old hgo
    have c1 : (0 : Int) ≤ ((i : Nat) : Int) := by omega
    rw [run_loop]
    simp only [lp110_0, loopsOf, Try.f110, Option.getD_some, core1, fgr, execOp, opd, ofValue, putT, put, nth, forgetL, bor, binInt, shiftB, intOp, List.nil_append, List.append_nil, ge_iff_le, decide_true, List.getD_cons_zero, c1]
    rw [opv_rd (Row.one ⟨_, iv.il⟩ rfl ti53 rfl)]
    simp only [core1, execOp, opd, putT, put, nth]
    rw [opv_rd (iv.iv.idx (j := i) u53 s22 rfl hic)]
    simp only [core1, execOp, opd, putT, put, nth, Nat.mul_one]
    rw [opv_rd (iv.iv.load (k := i) ti22 rfl hxi)]
    simp only [core1, execOp, opd, opds, putT, put, nth, doCall]
    refine opv_yield iv.ib rfl rfl ?_
    simp only [ra107_0, List.getD_cons_zero, putAll, List.zip_cons_cons, List.zip_nil_left, L107, rangesOf, Try.f107, Option.getD_some, core1, fgr, execOp, opd, putT, put, nth, forgetL, unOp, List.nil_append, List.append_nil, true_and]
    refine ⟨_, iv.ib, rfl, ?_⟩
    have iv := iv.setB { L107 (.fn (.yield (n + 1 + 1 + 1)) [] [] :: .ptr (n + 1 + 1) 0 :: .ptr (n + 1 + 1 + 1 + 1) 0 :: y3 :: y4 :: AVal.junk :: AVal.junk :: AVal.junk :: AVal.junk :: y9 :: y10 :: y11 :: AVal.junk :: AVal.junk :: AVal.junk :: AVal.junk :: AVal.junk :: AVal.junk :: AVal.junk :: AVal.junk :: AVal.junk :: AVal.junk :: AVal.junk :: y23 :: []) with state := .busy }
    have old := old.upd (i := n + 1 + 1 + 1 + 1 + 1 + 1) (b := some (.loop { L107 (.fn (.yield (n + 1 + 1 + 1)) [] [] :: .ptr (n + 1 + 1) 0 :: .ptr (n + 1 + 1 + 1 + 1) 0 :: y3 :: y4 :: AVal.junk :: AVal.junk :: AVal.junk :: AVal.junk :: y9 :: y10 :: y11 :: AVal.junk :: AVal.junk :: AVal.junk :: AVal.junk :: AVal.junk :: AVal.junk :: AVal.junk :: AVal.junk :: AVal.junk :: AVal.junk :: AVal.junk :: y23 :: []) with state := .busy })) (by omega)
    simp only [L107] at iv old ⊢
    generalize upd h (n + 1 + 1 + 1 + 1 + 1 + 1) _ = h1 at iv old ⊢
    simp only [rb107_0, List.getD_cons_zero, rangesOf, Try.f107, Option.getD_some, core1, fgr, List.nil_append, List.append_nil]
    refine run_draw ⟨rfl, ?_⟩
    simp only [fe_cons, execOp, opd, nth]
    rw [fev_rd (Row.one ⟨_, iv.iy⟩ rfl ti126 rfl)]
    simp only [fe_cons, execOp, opd, putT, put, nth, Nat.zero_add]
    rw [fev_rd (Row.one ⟨_, iv.ip⟩ rfl ti113 rfl)]
    simp only [fe_cons, fev_pure, core1, tyr, execOp, opd, putT, put, nth, und, sizeOf, nilCheck, getO, moved, fieldAddr, List.getElem?_cons_zero, Nat.reduceAdd, Nat.add_zero]
    rw [fev_rd (iv.is_.one iv.ic ti53 rfl)]
    have w1 : IntKind.i64.wrap (((cnt : Nat) : Int) - 1) = ((cnt - 1 : Nat) : Int) := by rw [w64 (by omega) (by omega)]; omega
    have w2 : IntKind.i64.wrap (((cnt - 1 : Nat) : Int) - ((i : Nat) : Int)) = ((cnt - 1 - i : Nat) : Int) := by rw [w64 (by omega) (by omega)]; omega
    simp only [fe_cons, fev_pure, execOp, opd, opds, ofValue, putT, put, nth, doCall, builtin, one1, bor, binInt, shiftB, intOp, wrapI, Nat.reduceAdd, decide_true, iv.iv.bLen u53, w1, w2]
    refine fev_any (fun j hj => iv.nx j hj) (Q1 := fun v' h' n' => n' = n + 1 + 1 + 1 + 1 + 1 + 1 + 1 ∧ Old h0 h' n ∧ ((i = cnt - 1 - k ∧ v' = .blit false ∧ Inv h' n p o k cnt v cs xs xi { L71 (.ptr p o :: x1 :: AVal.junk :: .ptr n 0 :: x4 :: .ptr (n + 1) 0 :: x6 :: x7 :: AVal.junk :: x9 :: x10 :: x11 :: AVal.junk :: AVal.junk :: x14 :: AVal.junk :: AVal.junk :: []) with state := .done, pending := some (.exit 0) } { L107 (.fn (.yield (n + 1 + 1 + 1)) [] [] :: .ptr (n + 1 + 1) 0 :: .ptr (n + 1 + 1 + 1 + 1) 0 :: y3 :: y4 :: AVal.junk :: AVal.junk :: AVal.junk :: AVal.junk :: y9 :: y10 :: y11 :: AVal.junk :: AVal.junk :: AVal.junk :: AVal.junk :: AVal.junk :: AVal.junk :: AVal.junk :: AVal.junk :: AVal.junk :: AVal.junk :: AVal.junk :: y23 :: []) with state := .busy }) ∨
      (i ≠ cnt - 1 - k ∧ v' = .blit true ∧ Inv h' n p o k cnt v cs xs .nils (L71 (.ptr p o :: x1 :: AVal.junk :: .ptr n 0 :: x4 :: .ptr (n + 1) 0 :: x6 :: x7 :: AVal.junk :: x9 :: x10 :: x11 :: AVal.junk :: AVal.junk :: x14 :: AVal.junk :: AVal.junk :: [])) { L107 (.fn (.yield (n + 1 + 1 + 1)) [] [] :: .ptr (n + 1 + 1) 0 :: .ptr (n + 1 + 1 + 1 + 1) 0 :: y3 :: y4 :: AVal.junk :: AVal.junk :: AVal.junk :: AVal.junk :: y9 :: y10 :: y11 :: AVal.junk :: AVal.junk :: AVal.junk :: AVal.junk :: AVal.junk :: AVal.junk :: AVal.junk :: AVal.junk :: AVal.junk :: AVal.junk :: AVal.junk :: y23 :: []) with state := .busy }))) ?_ fun v7 h7 n7 r7 w7 hn7 f7 hh7 => ?_
    · refine wp_yield iv.ia rfl rfl ?_
      simp only [ra71_0, List.getD_cons_zero, putAll, List.zip_cons_cons, List.zip_nil_left, L71, rangesOf, Try.f71, Option.getD_some, core1, fgr, execOp, opd, putT, put, nth, forgetL, List.nil_append, List.append_nil, true_and]
      refine ⟨_, iv.ia, rfl, ?_⟩
      have iv := iv.setA { L71 (.ptr p o :: x1 :: AVal.junk :: .ptr n 0 :: x4 :: .ptr (n + 1) 0 :: x6 :: x7 :: AVal.junk :: x9 :: x10 :: x11 :: AVal.junk :: AVal.junk :: x14 :: AVal.junk :: AVal.junk :: []) with state := .busy }
      have old := old.upd (i := n + 1 + 1 + 1) (b := some (.loop { L71 (.ptr p o :: x1 :: AVal.junk :: .ptr n 0 :: x4 :: .ptr (n + 1) 0 :: x6 :: x7 :: AVal.junk :: x9 :: x10 :: x11 :: AVal.junk :: AVal.junk :: x14 :: AVal.junk :: AVal.junk :: []) with state := .busy })) (by omega)
      simp only [L71] at iv old ⊢
      generalize upd h1 (n + 1 + 1 + 1) _ = h2 at iv old ⊢
      simp only [rb71_0, List.getD_cons_zero, rangesOf, Try.f71, Option.getD_some, core1, fgr, execOp, opd, putT, put, nth, List.nil_append, List.append_nil]
      rw [opv_rd (Row.one ⟨_, iv.ik⟩ rfl ti3 rfl)]
      by_cases hik : i = cnt - 1 - k
      · have c2 : ((cnt - 1 - i : Nat) : Int) = ((k : Nat) : Int) := by omega
        have hxx : xi = x := by rw [hik, hx] at hxi; injection hxi with q; exact q.symm
        subst hxx
        simp only [core1, fgr, execOp, opd, putT, put, nth, forgetL, bor, binInt, shiftB, intOp, decide_true, beq_self_eq_true, c2]
        rw [opv_wr (Row.write iv.ir ti22 (by rw [hxk.1]; rfl) (by show 0 + 1 ≤ 1; omega) (by rw [hxk.1]; simp [hxk.2.1]))]
        rw [show splice [AVal.nils] 0 xi.cells = [xi] by rw [hxk.1]; rfl]
        have iv := iv.setR xi
        have old := old.upd (i := n + 1) (b := some (.row (.l [xi]) 22)) (by omega)
        generalize upd h2 (n + 1) _ = h3 at iv old ⊢
        simp only [core1, cont_block_any, fgr, putT, forgetL, true_and, normB, jumpOf]
        exact ⟨_, iv.ia, old.upd (by omega), .inl ⟨hik, iv.setA _⟩⟩
      · have c2 : ¬ ((cnt - 1 - i : Nat) : Int) = ((k : Nat) : Int) := by omega
        simp only [core1, fgr, execOp, opd, putT, put, nth, forgetL, bor, binInt, shiftB, intOp, int_beq, decide_true, decide_false, true_and, c2, normB, jumpOf]
        exact ⟨_, iv.ia, old.upd (by omega), .inr ⟨hik, iv.setA _⟩⟩
    obtain ⟨rfl, old, hh7 | hh7⟩ := hh7
    · obtain ⟨hik, rfl, iv⟩ := hh7
      simp only [fe_nil, fe_cons, fev_pure, core1, fgr, execOp, opd, putT, put, nth, forgetL, unOp, Nat.reduceAdd, Bool.not_false]
      refine ⟨(by (try simp (disch := first | assumption | omega) only [fine, List.all_cons, List.all_nil, clash_pl, clash_pr, clash_rr, Bool.not_false, Bool.true_or, Bool.and_true, Bool.true_and]); repeat' (first | rfl | exact (Bool.or_eq_true _ _).mpr (.inr rfl) | refine (Bool.and_eq_true _ _).mpr ⟨?_, ?_⟩)), ?_⟩
      simp only [core1, Bool.not_false, normB, jumpOf]
      refine ⟨_, iv.ib, ?_⟩
      simp only []
      have hxx : xi = x := by rw [hik, hx] at hxi; injection hxi with q; exact q.symm
      subst hxx
      exact hq _ _ (iv.setB _) (old.upd (by omega))
    · obtain ⟨hik, rfl, iv⟩ := hh7
      simp only [fe_nil, fe_cons, fev_pure, core1, fgr, execOp, opd, putT, put, nth, forgetL, unOp, Nat.reduceAdd, Bool.not_true]
      refine ⟨(by (try simp (disch := first | assumption | omega) only [fine, List.all_cons, List.all_nil, clash_pl, clash_pr, clash_rr, Bool.not_false, Bool.true_or, Bool.and_true, Bool.true_and]); repeat' (first | rfl | exact (Bool.or_eq_true _ _).mpr (.inr rfl) | refine (Bool.and_eq_true _ _).mpr ⟨?_, ?_⟩)), ?_⟩
      simp only [core1, fgr, execOp, opd, ofValue, putT, put, nth, forgetL, bor, binInt, shiftB, intOp, wrapI, decide_true, Bool.not_true, normB, jumpOf]
      refine ⟨_, iv.ib, ?_⟩
      rcases hgo with q | ⟨h1i, hgo⟩
      · exact absurd q hik
      have hw : IntKind.i64.wrap (((i : Nat) : Int) - 1) = ((i - 1 : Nat) : Int) := by rw [w64 (by omega) (by omega)]; omega
      simp only [hw]
      exact hgo _ _ _ (iv.setB _) (old.upd (by omega))
  intro m
  induction m with
  | zero =>
    intro i h z8 z18 hi hic iv old
    exact main i h z8 z18 x hic (by rw [hi]; exact hx) iv old (.inl hi)
  | succ m ih =>
    intro i h z8 z18 hi hic iv old
    have hxl := iv.iv.length
    refine main i h z8 z18 (xs[i]'(by omega)) hic (List.getElem?_eq_getElem _) iv old (.inr ⟨by omega, fun h2 y8 y18 iv2 old2 => ?_⟩)
    have := ih (i - 1) h2 y8 y18 (by omega) (by omega) iv2 old2
    exact this
theorem f108 (v : AVal) (hv : v.cells = [v] ∧ oneCell v = true ∧ isJunk v = false) (h : Hp) (n : Nat) : Wp (callI env (evalW env) 108 [v]) h n fun v' h' n' => v' = .fn (.func 110) [] [.ptr n 0] ∧ h' = upd h n (some (.row (.l [v]) 53)) ∧ n' = n + 1 := by
  refine wp_callI ff108 fi108 ?_
  simp only [fu108, Try.f108, Option.getD_some, List.replicate, core1, tyr, fgr, execOp, opd, opds, ofValue, putT, put, nth, forgetL, alloc, newRow, ended, resultOf, oneOrTup, List.cons_append, List.nil_append, List.length_cons, List.length_nil, Nat.reduceSub, and_self, Nat.zero_add, wp_pure, hv.1, hv.2.2]
theorem f103 (p o : Nat) (h : Hp) (n : Nat) : Wp (callI env (evalW env) 103 [.ptr p o]) h n fun v' h' n' => v' = .fn (.func 107) [] [.ptr n 0] ∧ h' = upd h n (some (.row (.l [.ptr p o]) 113)) ∧ n' = n + 1 := by
  refine wp_callI ff103 fi103 ?_
  simp only [fu103, Try.f103, Option.getD_some, List.replicate, core1, tyr, fgr, execOp, opd, opds, ofValue, putT, put, nth, forgetL, cel, alloc, newRow, ended, resultOf, oneOrTup, List.cons_append, List.nil_append, List.length_cons, List.length_nil, Nat.reduceSub, and_self, Nat.zero_add, wp_pure]
end Go.Am.Ytmoplhbncjicbaa
