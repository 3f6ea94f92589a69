/- What the statement reaches, gone through; and the abstract machine that goes through it. -/
import Derived.Test.YtmoplhbncjicbaaGC
set_option linter.unusedSimpArgs false
set_option linter.unusedVariables false
set_option linter.defProp false
set_option maxRecDepth 10000
namespace Go.Am.Ytmoplhbncjicbaa
open Go Go.Am Go.Proofs
theorem f28 (h : Hp) (n : Nat) (c a b : Int) : Wp (callI env (evalW env) 28 [.int .u8 c, .int .i64 a, .int .i64 b]) h n fun v' h' n' => v' = .tup [.int .i64 (twoR c a b).1, .int .i64 (twoR c a b).2] ∧ h' = h ∧ n' = n := by
  refine wp_callI ff28 fi28 ?_
  by_cases hc : isTwo c
  · unfold twoR twoV
    by_cases ha : may a = true
    · by_cases hb : may b = true
      · have ha1 := may_t ha
        have hb1 := may_t hb
        have hc' := hc
        unfold isTwo at hc'
        rcases hc' with rfl | rfl | rfl | rfl | rfl | rfl | rfl | rfl | rfl | rfl | rfl | rfl | rfl
        · simp (disch := first | omega | exact NB _ rfl _) only [fu28, Try.f28, Option.getD_some, List.replicate, core1, fgr, hkr, execOp, opd, opds, ofValue, putT, put, nth, forgetL, doCall, callV_func, bor, binInt, shiftB, intOp, wrapI, unOp, doPick, branch, ended, resultOf, oneOrTup, List.getElem?_cons_succ, List.getElem?_cons_zero, List.append_eq, List.cons_append, List.nil_append, List.append_nil, List.length_cons, List.length_nil, Nat.reduceAdd, Nat.reduceSub, int_bne, ↓reduceIte, not_true_eq_false, decide_true, decide_false, Bool.not_true, and_self, Nat.zero_add, wp_pure, beq_self_eq_true, c32, c61, ari2, *, w64]
        · simp (disch := first | omega | exact NB _ rfl _) only [fu28, Try.f28, Option.getD_some, List.replicate, core1, fgr, hkr, execOp, opd, opds, ofValue, putT, put, nth, forgetL, doCall, callV_func, bor, binInt, shiftB, intOp, wrapI, unOp, doPick, branch, ended, resultOf, oneOrTup, List.getElem?_cons_succ, List.getElem?_cons_zero, List.append_eq, List.cons_append, List.nil_append, List.append_nil, List.length_cons, List.length_nil, Nat.reduceAdd, Nat.reduceSub, int_beq, int_bne, ↓reduceIte, Int.reduceEq, not_true_eq_false, decide_true, decide_false, Bool.not_true, and_self, Nat.zero_add, wp_pure, beq_self_eq_true, c32, c61, ari2, *, w64]
        · cases e3 : decide (a = 0) <;> cases e4 : decide (b = 0) <;> simp (disch := first | omega | exact NB _ rfl _) only [fu28, Try.f28, Option.getD_some, List.replicate, core1, fgr, hkr, execOp, opd, opds, ofValue, putT, put, nth, forgetL, doCall, callV_func, bor, binInt, shiftB, intOp, unOp, doPick, branch, ended, resultOf, oneOrTup, List.getElem?_cons_succ, List.getElem?_cons_zero, List.append_eq, List.cons_append, List.nil_append, List.append_nil, List.length_cons, List.length_nil, Nat.reduceAdd, Nat.reduceSub, int_beq, int_bne, ↓reduceIte, Int.reduceEq, not_true_eq_false, decide_not, decide_true, decide_false, Bool.not_true, Bool.not_false, Bool.and_true, Bool.and_false, and_self, Nat.zero_add, wp_pure, beq_self_eq_true, c32, c61, c58, ari2, *]
        · cases e3 : decide (a = 0) <;> cases e4 : decide (b = 0) <;> simp (disch := first | omega | exact NB _ rfl _) only [fu28, Try.f28, Option.getD_some, List.replicate, core1, fgr, hkr, execOp, opd, opds, ofValue, putT, put, nth, forgetL, doCall, callV_func, bor, binInt, shiftB, intOp, unOp, doPick, branch, ended, resultOf, oneOrTup, List.getElem?_cons_succ, List.getElem?_cons_zero, List.append_eq, List.cons_append, List.nil_append, List.append_nil, List.length_cons, List.length_nil, Nat.reduceAdd, Nat.reduceSub, int_beq, int_bne, ↓reduceIte, Int.reduceEq, not_true_eq_false, decide_not, decide_true, decide_false, Bool.not_true, Bool.not_false, Bool.or_true, Bool.or_false, and_self, Nat.zero_add, wp_pure, beq_self_eq_true, c32, c61, c58, ari2, *]
        · simp (disch := first | omega | exact NB _ rfl _) only [fu28, Try.f28, Option.getD_some, List.replicate, core1, fgr, hkr, execOp, opd, opds, ofValue, putT, put, nth, forgetL, doCall, callV_func, bor, binInt, shiftB, intOp, unOp, doPick, branch, ended, resultOf, oneOrTup, List.getElem?_cons_succ, List.getElem?_cons_zero, List.append_eq, List.cons_append, List.nil_append, List.append_nil, List.length_cons, List.length_nil, Nat.reduceAdd, Nat.reduceSub, int_beq, int_bne, ↓reduceIte, Int.reduceEq, not_true_eq_false, decide_true, decide_false, Bool.not_true, and_self, Nat.zero_add, wp_pure, beq_self_eq_true, c32, c61, c58, ari2, *]
        · simp (disch := first | omega | exact NB _ rfl _) only [fu28, Try.f28, Option.getD_some, List.replicate, core1, fgr, hkr, execOp, opd, opds, ofValue, putT, put, nth, forgetL, doCall, callV_func, bor, binInt, shiftB, intOp, unOp, doPick, branch, ended, resultOf, oneOrTup, List.getElem?_cons_succ, List.getElem?_cons_zero, List.append_eq, List.cons_append, List.nil_append, List.append_nil, List.length_cons, List.length_nil, Nat.reduceAdd, Nat.reduceSub, int_beq, int_bne, ↓reduceIte, Int.reduceEq, not_true_eq_false, decide_true, decide_false, Bool.not_true, and_self, Nat.zero_add, wp_pure, beq_self_eq_true, c32, c61, c58, ari2, *]
        · simp (disch := first | omega | exact NB _ rfl _) only [fu28, Try.f28, Option.getD_some, List.replicate, core1, fgr, hkr, execOp, opd, opds, ofValue, putT, put, nth, forgetL, doCall, callV_func, bor, binInt, shiftB, intOp, unOp, doPick, branch, ended, resultOf, oneOrTup, List.getElem?_cons_succ, List.getElem?_cons_zero, List.append_eq, List.cons_append, List.nil_append, List.append_nil, List.length_cons, List.length_nil, Nat.reduceAdd, Nat.reduceSub, int_beq, int_bne, ↓reduceIte, Int.reduceEq, not_true_eq_false, decide_not, decide_true, decide_false, Bool.not_true, and_self, Nat.zero_add, wp_pure, beq_self_eq_true, c32, c61, c58, ari2, *]
        · simp (disch := first | omega | exact NB _ rfl _) only [fu28, Try.f28, Option.getD_some, List.replicate, core1, fgr, hkr, execOp, opd, opds, ofValue, putT, put, nth, forgetL, doCall, callV_func, bor, binInt, shiftB, intOp, unOp, doPick, branch, ended, resultOf, oneOrTup, List.getElem?_cons_succ, List.getElem?_cons_zero, List.append_eq, List.cons_append, List.nil_append, List.append_nil, List.length_cons, List.length_nil, Nat.reduceAdd, Nat.reduceSub, int_beq, int_bne, ↓reduceIte, Int.reduceEq, not_true_eq_false, decide_true, decide_false, Bool.not_true, and_self, Nat.zero_add, wp_pure, beq_self_eq_true, c32, c61, c58, ari2, *]
        · simp (disch := first | omega | exact NB _ rfl _) only [fu28, Try.f28, Option.getD_some, List.replicate, core1, fgr, hkr, execOp, opd, opds, ofValue, putT, put, nth, forgetL, doCall, callV_func, bor, binInt, shiftB, intOp, unOp, doPick, branch, ended, resultOf, oneOrTup, List.getElem?_cons_succ, List.getElem?_cons_zero, List.append_eq, List.cons_append, List.nil_append, List.append_nil, List.length_cons, List.length_nil, Nat.reduceAdd, Nat.reduceSub, int_beq, int_bne, ↓reduceIte, Int.reduceEq, gt_iff_lt, not_true_eq_false, decide_true, decide_false, Bool.not_true, and_self, Nat.zero_add, wp_pure, beq_self_eq_true, c32, c61, c58, ari2, *]
        · simp (disch := first | omega | exact NB _ rfl _) only [fu28, Try.f28, Option.getD_some, List.replicate, core1, fgr, hkr, execOp, opd, opds, ofValue, putT, put, nth, forgetL, doCall, callV_func, bor, binInt, shiftB, intOp, unOp, doPick, branch, ended, resultOf, oneOrTup, List.getElem?_cons_succ, List.getElem?_cons_zero, List.append_eq, List.cons_append, List.nil_append, List.append_nil, List.length_cons, List.length_nil, Nat.reduceAdd, Nat.reduceSub, int_beq, int_bne, ↓reduceIte, Int.reduceEq, not_true_eq_false, decide_true, decide_false, Bool.not_true, and_self, Nat.zero_add, wp_pure, beq_self_eq_true, c32, c61, c58, ari2, *]
        · simp (disch := first | omega | exact NB _ rfl _) only [fu28, Try.f28, Option.getD_some, List.replicate, core1, fgr, hkr, execOp, opd, opds, ofValue, putT, put, nth, forgetL, doCall, callV_func, bor, binInt, shiftB, intOp, unOp, doPick, branch, ended, resultOf, oneOrTup, List.getElem?_cons_succ, List.getElem?_cons_zero, List.append_eq, List.cons_append, List.nil_append, List.append_nil, List.length_cons, List.length_nil, Nat.reduceAdd, Nat.reduceSub, int_beq, int_bne, ↓reduceIte, Int.reduceEq, ge_iff_le, not_true_eq_false, decide_true, decide_false, Bool.not_true, and_self, Nat.zero_add, wp_pure, beq_self_eq_true, c32, c61, c58, ari2, *]
        · by_cases e1 : b < a <;> by_cases e2 : a < b <;> simp (disch := first | omega | exact NB _ rfl _) only [fu28, Try.f28, Option.getD_some, List.replicate, core1, fgr, hkr, execOp, opd, opds, ofValue, putT, put, nth, forgetL, doCall, callV_func, bor, binInt, shiftB, intOp, unOp, doPick, branch, ended, resultOf, oneOrTup, List.getElem?_cons_succ, List.getElem?_cons_zero, List.append_eq, List.cons_append, List.nil_append, List.append_nil, List.length_cons, List.length_nil, Nat.reduceAdd, Nat.reduceSub, int_beq, int_bne, ↓reduceIte, Int.reduceEq, not_true_eq_false, decide_true, decide_false, Bool.not_true, and_true, true_and, and_self, Nat.zero_add, wp_pure, beq_self_eq_true, c32, c61, ari2, *]
          all_goals (have : a = b := by omega); simp only [this]
        · by_cases e1 : b < a <;> by_cases e2 : a < b <;> simp (disch := first | omega | exact NB _ rfl _) only [fu28, Try.f28, Option.getD_some, List.replicate, core1, fgr, hkr, execOp, opd, opds, ofValue, putT, put, nth, forgetL, doCall, callV_func, bor, binInt, shiftB, intOp, unOp, doPick, branch, ended, resultOf, oneOrTup, List.getElem?_cons_succ, List.getElem?_cons_zero, List.append_eq, List.cons_append, List.nil_append, List.append_nil, List.length_cons, List.length_nil, Nat.reduceAdd, Nat.reduceSub, int_beq, int_bne, ↓reduceIte, Int.reduceEq, gt_iff_lt, not_true_eq_false, decide_true, decide_false, Bool.not_true, and_true, true_and, and_self, Nat.zero_add, wp_pure, c32, c61, ari2, *]
          all_goals (have : a = b := by omega); simp only [this]
      · rw [Bool.not_eq_true] at hb
        simp only [fu28, Try.f28, Option.getD_some, List.replicate, fgr, hkr, bor, unOp, doPick, Nat.reduceAdd, Nat.reduceSub, ↓reduceIte, c32, c61, ari2, *, Bool.false_eq_true, gE]
    · rw [Bool.not_eq_true] at ha
      simp only [fu28, Try.f28, Option.getD_some, List.replicate, fgr, hkr, bor, unOp, doPick, Nat.reduceAdd, Nat.reduceSub, ↓reduceIte, c32, c61, ari2, *, Bool.false_eq_true, gE]
  · unfold twoR
    simp only [fu28, Try.f28, Option.getD_some, List.replicate, fgr, hkr, bor, Nat.reduceAdd, Nat.reduceSub, ↓reduceIte, c32, ari2, *, gE]
def c28 (h : Hp) (n : Nat) (c a b : Int) := opv_det (f28 h n c a b)
theorem f29 (h : Hp) (n : Nat) (x a b : Int) : Wp (callI env (evalW env) 29 [.int .i64 x, .int .i64 a, .int .i64 b]) h n fun v' h' n' => v' = .bool (decide (a ≤ x) && decide (x < b)) ∧ h' = h ∧ n' = n := by
  refine wp_callI ff29 fi29 ?_
  by_cases e1 : a ≤ x <;> simp only [fu29, Try.f29, Option.getD_some, List.replicate, fgr, bor, doPick, Nat.reduceAdd, Nat.reduceSub, ge_iff_le, *, gE]
def c29 (h : Hp) (n : Nat) (x a b : Int) := opv_det (f29 h n x a b)
theorem f30 (h : Hp) (n : Nat) (x a b : Int) : Wp (callI env (evalW env) 30 [.int .i64 x, .int .i64 a, .int .i64 b]) h n fun v' h' n' => v' = .bool (decide (a ≤ x) && decide (x < b)) ∧ h' = h ∧ n' = n := by
  refine wp_callI ff30 fi30 ?_
  by_cases e1 : a ≤ x <;> simp only [fu30, Try.f30, Option.getD_some, List.replicate, fgr, bor, doPick, Nat.reduceAdd, Nat.reduceSub, *, gE]
def c30 (h : Hp) (n : Nat) (x a b : Int) := opv_det (f30 h n x a b)
theorem f5 (h : Hp) (n : Nat) (c a b d : Int) : Wp (callI env (evalW env) 5 [.int .u8 c, .int .i64 a, .int .i64 b, .int .i64 d]) h n fun v' h' n' => v' = .bool true ∧ h' = h ∧ n' = n := by
  refine wp_callI ff5 fi5 ?_
  simp only [fu5, Try.f5, Option.getD_some, List.replicate, tyr, fgr, hkr, bor, binOther, aggK, doPick, equalTop, equal, nilFn, nilPtr, boolOf, Nat.reduceAdd, Nat.reduceSub, c25, c26, c27, c28, c29, c30, c31, c32, gE]
def c5 (h : Hp) (n : Nat) (c a b d : Int) := opv_det (f5 h n c a b d)
def dig (m : Nat) : List UInt8 := if h : m = 0 then [] else UInt8.ofNat (m % 256) :: dig (m / 256)
termination_by m
decreasing_by exact Nat.div_lt_self (Nat.pos_of_ne_zero h) (by decide)
theorem dig_zero : dig 0 = [] := by rw [dig]; simp
theorem dig_pos {m : Nat} (h : 0 < m) : dig m = UInt8.ofNat (m % 256) :: dig (m / 256) := by rw [dig]; simp [Nat.ne_of_gt h]
theorem dig_len : ∀ (k m : Nat), m < 256 ^ k → (dig m).length ≤ k := by
  intro k
  induction k with
  | zero => intro m h; have : m = 0 := by simpa using h
            subst this; simp [dig_zero]
  | succ k ih =>
    intro m h
    by_cases hm : m = 0
    · subst hm; simp [dig_zero]
    · rw [dig_pos (Nat.pos_of_ne_zero hm)]
      simp only [List.length_cons]
      have := ih (m / 256) (by rw [Nat.div_lt_iff_lt_mul (by decide)]; rw [Nat.pow_succ] at h; exact h)
      omega
theorem u8_ofNat (m : Nat) : u8 (UInt8.ofNat m) = .int .u8 ((m % 256 : Nat) : Int) := by simp [u8]
theorem wrap_u8 (z : Int) (h : 0 ≤ z) : IntKind.u8.wrap z = ((z.toNat % 256 : Nat) : Int) := by rw [IntKind.wrap_u8]; omega
theorem tm256 (m : Nat) : ((m : Int)).tmod 256 = ((m % 256 : Nat) : Int) := by rw [Int.tmod_eq_emod_of_nonneg (by omega)]; omega
theorem td256 (m : Nat) : ((m : Int)).tdiv 256 = ((m / 256 : Nat) : Int) := by rw [Int.tdiv_eq_ediv_of_nonneg (by omega)]; omega
theorem loop56 (Q : Post0) (ks : List Kf) (N : Nat) (y4 : AVal) : ∀ (m : Nat) (acc : List UInt8) (cnt : Nat) (v : AVal) (h : Hp) (n : Nat) (x2 x5 x8 x12 x23 x31 x37 : AVal), m < 9223372036854775808 → N ≤ n → Own h n 5 1 v cnt (acc.map u8) → (∀ j, ownId v = some j → N ≤ j) → cnt + (dig m).length ≤ 1000000 →
    (∀ v' h' n' cnt' (x2 x5 x8 x12 x23 x31 x37 : AVal), N ≤ n' → Own h' n' 5 1 v' cnt' ((acc ++ dig m).map u8) → (∀ j, ownId v' = some j → N ≤ j) → Old h h' N → Kont env 56 none Q ks (.exit 0) (.int .i64 0 :: AVal.junk :: x2 :: v' :: y4 :: x5 :: AVal.junk :: AVal.junk :: x8 :: AVal.junk :: AVal.junk :: AVal.junk :: x12 :: AVal.junk :: AVal.junk :: AVal.junk :: AVal.junk :: AVal.junk :: AVal.junk :: AVal.junk :: AVal.junk :: AVal.junk :: AVal.junk :: x23 :: AVal.junk :: AVal.junk :: AVal.junk :: AVal.junk :: AVal.junk :: AVal.junk :: AVal.junk :: x31 :: AVal.junk :: AVal.junk :: AVal.junk :: AVal.junk :: AVal.junk :: x37 :: AVal.junk :: AVal.junk :: AVal.junk :: AVal.junk :: AVal.junk :: AVal.junk :: AVal.junk :: AVal.junk :: AVal.junk :: []) h' n') →
    Run env 56 none Q (.loop lp56_0) ks (.int .i64 (m : Nat) :: AVal.junk :: x2 :: v :: y4 :: x5 :: AVal.junk :: AVal.junk :: x8 :: AVal.junk :: AVal.junk :: AVal.junk :: x12 :: AVal.junk :: AVal.junk :: AVal.junk :: AVal.junk :: AVal.junk :: AVal.junk :: AVal.junk :: AVal.junk :: AVal.junk :: AVal.junk :: x23 :: AVal.junk :: AVal.junk :: AVal.junk :: AVal.junk :: AVal.junk :: AVal.junk :: AVal.junk :: x31 :: AVal.junk :: AVal.junk :: AVal.junk :: AVal.junk :: AVal.junk :: x37 :: AVal.junk :: AVal.junk :: AVal.junk :: AVal.junk :: AVal.junk :: AVal.junk :: AVal.junk :: AVal.junk :: AVal.junk :: []) h n := by
  intro m
  induction m using Nat.strongRecOn with
  | _ m ih =>
    intro acc cnt v h n x2 x5 x8 x12 x23 x31 x37 hm hN ho hid hb hq
    rw [run_loop]
    by_cases h0 : m = 0
    · subst h0
      simp only [lp56_0, loopsOf, Try.f56, Option.getD_some, fgr, bor, Int.cast_ofNat_Int, Int.reduceLT, gt_iff_lt, List.getD_cons_zero, gE]
      refine hq v h n cnt _ _ _ _ _ _ _ hN (by rw [dig_zero, List.append_nil]; exact ho) hid (Old.refl _ _)
    · have hp : (0 : Int) < (m : Int) := by omega
      have hmod : (0 : Int) ≤ ((m % 256 : Nat) : Int) := by omega
      simp only [lp56_0, loopsOf, Try.f56, Option.getD_some, tyr, fgr, builtin, lenOf, bor, wrapI, cel, newRow, Nat.beq, Int.reduceEq, gt_iff_lt, buildSlice, reps, fill, List.take_zero, List.drop_succ_cons, List.drop_zero, Nat.ble, Nat.one_mul, ne_eq, convert, convStr, isU8, List.getD_cons_zero, hp, tm256, wrap_u8 _ hmod, gE]
      have hdl := hb
      rw [dig_pos (by omega)] at hdl
      simp only [List.length_cons] at hdl
      have hne : ∀ j, ownId v = some j → j ≠ n := fun j hj => by have := ho.id_lt hj; omega
      refine own_append (i := ⟨.int .u8, 1, 1, .int .u8 0⟩) (e := 5) (xs := acc.map u8) (ys := [.int .u8 ((m % 256 : Nat) : Int)]) (cnt := cnt) (e2 := 5) (ho.keep (by omega) fun j hj => upd_ne _ _ (hne j hj)) rfl rfl ti5 ?_ rfl (by decide) (by decide) rfl
        (fun e => hne n e rfl) (by simp only [Nat.mul_one]; omega) (by omega) ?_
      · rw [upd_same, Int.toNat_natCast, Nat.mod_mod]
      intro v' h' hown hid' hold
      simp (disch := first | omega | exact NB _ rfl _) only [core1, fgr, execOp, opd, ofValue, putT, put, nth, forgetL, bor, binInt, shiftB, intOp, wrapI, Int.reduceEq, not_false_eq_true, decide_true, true_and, ne_eq, true_and, td256, w64]
      refine ih (m / 256) (Nat.div_lt_self (by omega) (by decide)) (acc ++ [UInt8.ofNat (m % 256)]) (cnt + 1) v' h' (n + 1 + 1) _ _ _ _ _ _ _ (by omega) (by omega) ?_ ?_ ?_ ?_
      · rw [List.map_append, List.map_singleton, u8_ofNat, Nat.mod_mod]; exact hown
      · intro j hj; rw [hid'] at hj; injection hj with hj; omega
      · omega
      · intro v2 h2 n2 cnt2 x2 x5 x8 x12 x23 x31 x37 hN2 ho2 hid2 hold2
        refine hq v2 h2 n2 cnt2 _ _ _ _ _ _ _ hN2 ?_ hid2 ?_
        · rw [dig_pos (by omega)]; simpa using ho2
        · intro j hj
          rw [hold2 j hj, hold j (by omega) (fun e => by have := hid j e; omega), upd_ne _ _ (by omega)]
def fin (s : Nat) (l : List UInt8) : List UInt8 :=
  match l.getLast? with
  | none => []
  | some b => if 128 ≤ b.toNat then l ++ [UInt8.ofNat s] else l.dropLast ++ [UInt8.ofNat (b.toNat + s)]
def sgn (x : Int) : Nat := if x < 0 then 128 else 0
def fmB (x : Int) : List UInt8 := fin (sgn x) (dig x.natAbs)
theorem lenOwn {h : Hp} {n cnt : Nat} {e : TypeId} {v : AVal} {l : List UInt8} (ho : Own h n e 1 v cnt (l.map u8)) : cnt = l.length := by have := ho.length; simp at this; omega
theorem fin_nil (s : Nat) : fin s [] = [] := rfl
theorem fin_hi (s : Nat) (l : List UInt8) (hl : l ≠ []) (hb : 128 ≤ (l.getLast hl).toNat) : fin s l = l ++ [UInt8.ofNat s] := by
  unfold fin
  rw [List.getLast?_eq_some_getLast hl]
  simp only [hb, ↓reduceIte]
theorem fin_lo (s : Nat) (l : List UInt8) (hl : l ≠ []) (hb : ¬ 128 ≤ (l.getLast hl).toNat) : fin s l = l.dropLast ++ [UInt8.ofNat ((l.getLast hl).toNat + s)] := by
  unfold fin
  rw [List.getLast?_eq_some_getLast hl]
  simp only [hb, ↓reduceIte]
theorem set_last (l : List UInt8) (hl : l ≠ []) (b : UInt8) : l.set (l.length - 1) b = l.dropLast ++ [b] := by
  rw [List.set_eq_take_append_cons_drop]
  have h1 : l.length - 1 < l.length := by have := List.length_pos_iff.2 hl; omega
  rw [if_pos h1, List.dropLast_eq_take]
  congr 1
  have : l.drop (l.length - 1 + 1) = [] := by rw [List.drop_eq_nil_iff]; omega
  rw [this]
theorem t22 : und env 22 = M.pure (.slice 5) := rfl
theorem s5 : sizeOf env 5 = M.pure 1 := rfl
theorem last_eq (l : List UInt8) (hl : l ≠ []) (hi : l.length - 1 < l.length) : l[l.length - 1] = l.getLast hl := by rw [List.getLast_eq_getElem]
theorem u8add (a b : Nat) (h : a + b < 256) : u8 (UInt8.ofNat (a + b)) = .int .u8 ((a : Int) + b) := by rw [u8_ofNat, Nat.mod_eq_of_lt h]; rfl
def sg (neg : Bool) : Nat := match neg with | true => 128 | false => 0
def sv (neg : Bool) (m : Nat) : Int := match neg with | true => -(m : Int) | false => m
theorem f56a (neg : Bool) (m : Nat) (hm : m < 9223372036854775808) (hn : neg = true → 0 < m) (h : Hp) (n : Nat) : Wp (callI env (evalW env) 56 [.int .i64 (sv neg m)]) h n fun v' h' n' => ∃ cnt, Own h' n' 5 1 v' cnt ((fin (sg neg) (dig m)).map u8) ∧ (∀ j, ownId v' = some j → n ≤ j) ∧ Old h h' n := by
  refine wp_callI ff56 fi56 ?_
  have hdl : (dig m).length ≤ 8 := dig_len 8 _ (by have : m < 18446744073709551616 := by omega
                                                   exact this)
  have hz1 : IntKind.i64.wrap (0 - -(m : Int)) = (m : Int) := by rw [w64 (by omega) (by omega)]; omega
  have hz2 : ¬ (m : Int) < 0 := by omega
  have hz3 : neg = true → -(m : Int) < 0 := fun e => by have := hn e; omega
  cases neg with
  | true =>
    have hz4 := hz3 rfl
    simp only [fu56, Try.f56, Option.getD_some, List.replicate, fgr, bor, wrapI, unOp, Nat.reduceSub, hz1, hz4, sv, gE]
    refine loop56 _ _ n _ m [] 0 .nils h n _ _ _ _ _ _ _ (by omega) (Nat.le_refl _) .nil (fun j hj => by cases hj) (by omega) ?_
    intro v h1 n1 cnt x2 x5 x8 x12 x23 x31 x37 hn1 ho hid hold
    have hl := lenOwn ho
    simp only [List.nil_append] at ho hl
    have hb := ho.bytes
    by_cases he : dig m = []
    · have hlen : (((dig m).length : Nat) : Int) = 0 := by rw [he]; rfl
      simp (disch := first | omega | exact NB _ rfl _) only [core1, fgr, execOp, opd, opds, ofValue, putT, put, nth, forgetL, doCall, builtin, one1, bor, binInt, shiftB, intOp, decide_true, true_and, beq_self_eq_true, hb.bLen t22, hlen]
      refine ⟨0, ?_, (fun j hj => by cases hj), hold⟩
      rw [he, fin_nil]; exact .nil
    · have hpos := List.length_pos_iff.2 he
      have hlen : ¬ (((dig m).length : Nat) : Int) = 0 := by omega
      have hi1 : 0 ≤ (((dig m).length : Nat) : Int) - 1 ∧ (((dig m).length : Nat) : Int) - 1 < (((dig m).length : Nat) : Int) := by omega
      have hi2 : ((((dig m).length : Nat) : Int) - 1).toNat = (dig m).length - 1 := by omega
      have hi3 : (dig m).length - 1 < (dig m).length := by omega
      have hi4 := last_eq (dig m) he hi3
      have hi5 := ((dig m).getLast he).toNat_lt
      by_cases hbig : 128 ≤ (((dig m).getLast he).toNat : Int)
      · have hcc : cnt ≤ 8 := by omega
        simp (disch := first | omega | exact NB _ rfl _) only [core1, u8, tyr, fgr, execOp, opd, opds, ofValue, ops2, putT, put, nth, forgetL, doCall, builtin, one1, two2, und, bor, binInt, shiftB, intOp, wrapI, cel, newRow, getO, List.cons_append, List.nil_append, List.append_nil, List.length_cons, List.length_nil, Nat.beq, int_beq, ge_iff_le, decide_true, decide_false, Bool.not_false, Bool.and_true, Bool.true_and, true_and, and_self, Nat.zero_add, Nat.zero_mul, buildSlice, reps, fill, List.take_zero, List.drop_succ_cons, List.drop_zero, Nat.ble, opv_new, hb.bLen t22, hlen, hb.index t22 s5, w64, hi1, hi2, hb.load ti5 rfl hi3, hi4, hbig]
        have hne : ∀ j, ownId v = some j → j ≠ n1 := fun j hj => by have := ho.id_lt hj; omega
        refine own_append (i := ⟨.int .u8, 1, 1, .int .u8 0⟩) (e := 5) (xs := (dig m).map u8) (ys := [.int .u8 0]) (cnt := cnt) (e2 := 5) (ho.keep (by omega) fun j hj => upd_ne _ _ (hne j hj)) rfl rfl ti5 (upd_same _ _ _) rfl (by decide) (by decide) rfl
          (fun e => hne n1 e rfl) (by simp only [Nat.mul_one]; omega) (by omega) ?_
        intro v2 h2 ho2 hid2 hold2
        have ho3 : Own h2 (n1 + 1 + 1) 5 1 v2 (cnt + 1) (((dig m) ++ [UInt8.ofNat 0]).map u8) := by simpa [u8] using ho2
        have hb2 := ho3.bytes
        have hold3 : Old h h2 n := fun j hj => by rw [hold2 j (by omega) (fun e => by have := hid j e; omega), upd_ne _ _ (by omega)]; exact hold j hj
        have hj1 : 0 ≤ (((dig m).length : Nat) : Int) ∧ (((dig m).length : Nat) : Int) < ((((dig m) ++ [UInt8.ofNat 0]).length : Nat) : Int) := by rw [List.length_append]; simp; omega
        have hj3 : (dig m).length < ((dig m) ++ [UInt8.ofNat 0]).length := by simp
        have hj4 : ((dig m) ++ [UInt8.ofNat 0])[(dig m).length]'hj3 = UInt8.ofNat 0 := by rw [List.getElem_append_right (Nat.le_refl _)]; simp
        simp (disch := first | omega | exact NB _ rfl _) only [core1, u8, fgr, execOp, opd, ofValue, putT, put, nth, forgetL, bor, binInt, shiftB, intOp, wrapI, decide_true, true_and, and_self, hb2.index t22 s5, w64, Int.sub_add_cancel, hj1, Int.toNat_natCast, hb2.load ti5 rfl hj3, hj4, show IntKind.u8.wrap ((UInt8.ofNat 0).toNat + 128 : Int) = 128 from rfl]
        refine own_store ho3 (j := (dig m).length) (by omega) ti5 rfl rfl rfl ?_
        intro h3 ho4 hk4
        simp (disch := first | omega | exact NB _ rfl _) only [core1, fgr, execOp, opd, putT, put, nth, forgetL, true_and]
        refine ⟨cnt + 1, ?_, (fun j hj => by rw [hid2] at hj; injection hj with hj; omega), fun j hj => by rw [hk4 j (fun e => by rw [hid2] at e; injection e with e; omega)]; exact hold3 j hj⟩
        rw [fin_hi _ _ he (by omega)]
        have e : ((dig m ++ [UInt8.ofNat (sg true)]).map u8) = ((dig m ++ [UInt8.ofNat 0]).map u8).set (dig m).length (.int .u8 128) := by
          rw [List.map_append, List.map_append, List.set_append_right _ _ (by simp)]; simp [u8, sg]
        rw [e]
        exact ho4
      · simp (disch := first | omega | exact NB _ rfl _) only [core1, u8, fgr, execOp, opd, opds, ofValue, putT, put, nth, forgetL, doCall, builtin, one1, bor, binInt, shiftB, intOp, wrapI, int_beq, ge_iff_le, decide_true, decide_false, true_and, and_self, hb.bLen t22, hlen, hb.index t22 s5, w64, wu8, hi1, hi2, hb.load ti5 rfl hi3, hi4, hbig]
        refine own_store ho (j := (dig m).length - 1) (by omega) ti5 rfl rfl rfl ?_
        intro h2 ho2 hk2
        simp (disch := first | omega | exact NB _ rfl _) only [core1, fgr, execOp, opd, putT, put, nth, forgetL, true_and]
        refine ⟨cnt, ?_, hid, fun j hj => by rw [hk2 j (fun e => by have := hid j e; omega)]; exact hold j hj⟩
        rw [fin_lo _ _ he (by omega), ← set_last _ he, List.map_set]
        rw [show sg true = 128 from rfl, u8add _ _ (by omega)]
        exact ho2
  | false =>
    simp only [fu56, Try.f56, Option.getD_some, List.replicate, fgr, bor, Nat.reduceSub, hz2, sv, gE]
    refine loop56 _ _ n _ m [] 0 .nils h n _ _ _ _ _ _ _ (by omega) (Nat.le_refl _) .nil (fun j hj => by cases hj) (by omega) ?_
    intro v h1 n1 cnt x2 x5 x8 x12 x23 x31 x37 hn1 ho hid hold
    have hl := lenOwn ho
    simp only [List.nil_append] at ho hl
    have hb := ho.bytes
    by_cases he : dig m = []
    · have hlen : (((dig m).length : Nat) : Int) = 0 := by rw [he]; rfl
      simp (disch := first | omega | exact NB _ rfl _) only [core1, fgr, execOp, opd, opds, ofValue, putT, put, nth, forgetL, doCall, builtin, one1, bor, binInt, shiftB, intOp, decide_true, true_and, beq_self_eq_true, hb.bLen t22, hlen]
      refine ⟨0, ?_, (fun j hj => by cases hj), hold⟩
      rw [he, fin_nil]; exact .nil
    · have hpos := List.length_pos_iff.2 he
      have hlen : ¬ (((dig m).length : Nat) : Int) = 0 := by omega
      have hi1 : 0 ≤ (((dig m).length : Nat) : Int) - 1 ∧ (((dig m).length : Nat) : Int) - 1 < (((dig m).length : Nat) : Int) := by omega
      have hi2 : ((((dig m).length : Nat) : Int) - 1).toNat = (dig m).length - 1 := by omega
      have hi3 : (dig m).length - 1 < (dig m).length := by omega
      have hi4 := last_eq (dig m) he hi3
      have hi5 := ((dig m).getLast he).toNat_lt
      by_cases hbig : 128 ≤ (((dig m).getLast he).toNat : Int)
      · have hcc : cnt ≤ 8 := by omega
        simp (disch := first | omega | exact NB _ rfl _) only [core1, u8, tyr, fgr, execOp, opd, opds, ofValue, ops2, putT, put, nth, forgetL, doCall, builtin, one1, two2, und, bor, binInt, shiftB, intOp, wrapI, cel, newRow, getO, List.cons_append, List.nil_append, List.append_nil, List.length_cons, List.length_nil, Nat.beq, int_beq, ge_iff_le, decide_true, decide_false, Bool.not_false, Bool.and_true, Bool.true_and, true_and, and_self, Nat.zero_add, Nat.zero_mul, buildSlice, reps, fill, List.take_zero, List.drop_succ_cons, List.drop_zero, Nat.ble, opv_new, hb.bLen t22, hlen, hb.index t22 s5, w64, hi1, hi2, hb.load ti5 rfl hi3, hi4, hbig]
        have hne : ∀ j, ownId v = some j → j ≠ n1 := fun j hj => by have := ho.id_lt hj; omega
        refine own_append (i := ⟨.int .u8, 1, 1, .int .u8 0⟩) (e := 5) (xs := (dig m).map u8) (ys := [.int .u8 0]) (cnt := cnt) (e2 := 5) (ho.keep (by omega) fun j hj => upd_ne _ _ (hne j hj)) rfl rfl ti5 (upd_same _ _ _) rfl (by decide) (by decide) rfl
          (fun e => hne n1 e rfl) (by simp only [Nat.mul_one]; omega) (by omega) ?_
        intro v2 h2 ho2 hid2 hold2
        have ho3 : Own h2 (n1 + 1 + 1) 5 1 v2 (cnt + 1) (((dig m) ++ [UInt8.ofNat 0]).map u8) := by simpa [u8] using ho2
        have hb2 := ho3.bytes
        have hold3 : Old h h2 n := fun j hj => by rw [hold2 j (by omega) (fun e => by have := hid j e; omega), upd_ne _ _ (by omega)]; exact hold j hj
        simp (disch := first | omega | exact NB _ rfl _) only [core1, fgr, execOp, opd, ofValue, putT, put, nth, forgetL, bor, binInt, shiftB, intOp, wrapI, decide_true, true_and]
        refine ⟨cnt + 1, ?_, (fun j hj => by rw [hid2] at hj; injection hj with hj; omega), hold3⟩
        rw [fin_hi _ _ he (by omega)]
        exact ho3
      · simp (disch := first | omega | exact NB _ rfl _) only [core1, u8, fgr, execOp, opd, opds, ofValue, putT, put, nth, forgetL, doCall, builtin, one1, bor, binInt, shiftB, intOp, wrapI, int_beq, ge_iff_le, decide_true, decide_false, true_and, and_self, hb.bLen t22, hlen, hb.index t22 s5, w64, hi1, hi2, hb.load ti5 rfl hi3, hi4, hbig]
        refine ⟨cnt, ?_, hid, hold⟩
        rw [fin_lo _ _ he (by omega), show sg false = 0 from rfl, Nat.add_zero, UInt8.ofNat_toNat, List.dropLast_concat_getLast]
        exact ho
theorem f80 (x : Int) (h : Hp) (n : Nat) : Wp (callI env (evalW env) 80 [.int .u64 x]) h n fun v' h' n' => v' = .fn (.func 105) [] [.ptr n 0] ∧ h' = upd h n (some (.row (.l [.int .u64 x]) 110)) ∧ n' = n + 1 := by
  refine wp_callI ff80 fi80 ?_
  simp only [fu80, Try.f80, Option.getD_some, List.replicate, tyr, fgr, cel, alloc, newRow, Nat.reduceSub, gE]
def c80 (x : Int) (h : Hp) (n : Nat) := opv_det (f80 x h n)
theorem and128 : ∀ a : Nat, a < 256 → IntKind.u8.wrap (((BitVec.ofInt IntKind.u8.bits (a : Int)) &&& (BitVec.ofInt IntKind.u8.bits 128)).toNat : Int) = if 128 ≤ a then 128 else 0 := by decide +kernel
theorem or128 : ∀ a : Nat, a < 128 → ∀ neg : Bool, IntKind.u8.wrap (((BitVec.ofInt IntKind.u8.bits (a : Int)) ||| (BitVec.ofInt IntKind.u8.bits ((sg neg : Nat) : Int))).toNat : Int) = ((a + sg neg : Nat) : Int) := by decide +kernel
theorem fd256 (m : Nat) : ((m : Int)).fdiv (2 ^ (min 8 IntKind.u64.bits)) = ((m / 256 : Nat) : Int) := by
  have : (2 : Int) ^ (min 8 IntKind.u64.bits) = 256 := by decide
  rw [this, Int.fdiv_eq_ediv_of_nonneg _ (by decide)]; omega
theorem fin_cons (s : Nat) (b c : UInt8) (l : List UInt8) : fin s (b :: c :: l) = b :: fin s (c :: l) := by
  have h1 : (c :: l) ≠ [] := by simp
  have h2 : (b :: c :: l) ≠ [] := by simp
  have h3 : (b :: c :: l).getLast h2 = (c :: l).getLast h1 := by rw [List.getLast_cons h1]
  by_cases hb : 128 ≤ ((c :: l).getLast h1).toNat
  · rw [fin_hi _ _ h1 hb, fin_hi _ _ h2 (by rw [h3]; exact hb)]; rfl
  · rw [fin_lo _ _ h1 hb, fin_lo _ _ h2 (by rw [h3]; exact hb), h3]; rfl
noncomputable def L29 (tm : List AVal) : ALoop := { state := .ready, pending := none, fn := 54, tmps := tm, params := [12, 13], assign := ra54_0, body := rb54_0 }
theorem loop105 (Q : Post0) (ks : List Kf) (N c3 c4 b id : Nat) (neg : Bool) (x0 x2 x5 x6 x8 x11 x12 x13 x15 x22 : AVal) (hd : c3 ≠ c4 ∧ c3 ≠ b ∧ c3 ≠ id ∧ c4 ≠ b ∧ c4 ≠ id ∧ b ≠ id) (hN : N ≤ c3 ∧ N ≤ c4 ∧ N ≤ b ∧ N ≤ id) :
    ∀ (m : Nat) (acc : List UInt8) (cnt : Nat) (v : AVal) (h : Hp) (n : Nat) (z2 z3 z4 z5 z6 z7 z8 z9 z10 z11 z12 z13 z14 z15 : AVal), m < 18446744073709551616 → c3 < n ∧ c4 < n ∧ b < n ∧ id < n →
    h c3 = some (.row (.l [v]) 22) → h c4 = some (.row (.l [.int .u8 ((sg neg : Nat) : Int)]) 5) → h b = some (.row (.l [.int .u64 (m : Nat)]) 110) → h id = some (.loop (L29 (x0 :: AVal.junk :: x2 :: .ptr c3 0 :: .ptr c4 0 :: x5 :: x6 :: AVal.junk :: x8 :: AVal.junk :: AVal.junk :: x11 :: x12 :: x13 :: AVal.junk :: x15 :: AVal.junk :: AVal.junk :: AVal.junk :: AVal.junk :: AVal.junk :: AVal.junk :: x22 :: AVal.junk :: AVal.junk :: AVal.junk :: AVal.junk :: AVal.junk :: AVal.junk :: AVal.junk :: AVal.junk :: AVal.junk :: AVal.junk :: AVal.junk :: AVal.junk :: []))) →
    Own h n 5 1 v cnt (acc.map u8) → (∀ j, ownId v = some j → N ≤ j ∧ j ≠ c3 ∧ j ≠ c4 ∧ j ≠ b ∧ j ≠ id) → cnt + (dig m).length ≤ 1000000 →
    (∀ v' h' n' cnt' e tm' l, (e = .exit 0 ∧ l.state = .ready ∧ l.pending = none ∨ e = .ret ∧ l.state = .done ∧ l.pending = some (.exit 0)) → h' id = some (.loop l) → h' c3 = some (.row (.l [v']) 22) → c3 < n' →
       Own h' n' 5 1 v' cnt' ((acc ++ fin (sg neg) (dig m)).map u8) → (∀ j, ownId v' = some j → N ≤ j ∧ j ≠ id) → Old h h' N → Kont env 105 none Q ks e tm' h' n') →
    Run env 105 none Q (.loop lp105_0) ks [.fn (.yield id) [] [], .ptr b 0, z2, z3, z4, z5, z6, z7, z8, z9, z10, z11, z12, z13, z14, z15] h n := by
  intro m
  induction m using Nat.strongRecOn with
  | _ m ih =>
    intro acc cnt v h n z2 z3 z4 z5 z6 z7 z8 z9 z10 z11 z12 z13 z14 z15 hm hn h3 h4 hb hi ho hid hbd hq
    rw [run_loop]
    by_cases h0 : m = 0
    · subst h0
      simp only [lp105_0, loopsOf, Try.f105, Option.getD_some, tyr, fgr, bor, readCells, cellsOf, oneOf, aggB, rowK, Int.cast_ofNat_Int, Int.reduceLT, gt_iff_lt, memr, List.take_succ_cons, List.take_zero, List.drop_zero, Nat.ble, Cont.size, Cont.sub, Option.some.injEq, exists_eq_left', List.getD_cons_zero, hb, gE]
      exact hq v h n cnt _ _ _ (.inl ⟨rfl, rfl, rfl⟩) hi h3 hn.1 (by rw [dig_zero, fin_nil, List.append_nil]; exact ho) (fun j hj => ⟨(hid j hj).1, (hid j hj).2.2.2.2⟩) (Old.refl _ _)
    · have hp : (0 : Int) < (m : Int) := by omega
      have hp0 : (0 : Int) ≤ (m : Int) := by omega
      by_cases hl : m / 256 = 0
      · have hl2 : ((m / 256 : Nat) : Int) = 0 := by omega
        have jn : ∀ j, ownId v = some j → j < n := fun j hj => ho.id_lt hj
        have hm2 : m % 256 < 256 := Nat.mod_lt _ (by decide)
        have hdl := dig_pos (m := m) (by omega)
        rw [hl, dig_zero] at hdl
        have hby : (UInt8.ofNat (m % 256)).toNat = m % 256 := by rw [UInt8.toNat_ofNat']; omega
        simp (disch := first | omega | exact NB _ rfl _) only [lp105_0, loopsOf, Try.f105, Option.getD_some, core1, tyr, fgr, execOp, opd, opds, ofValue, putT, put, nth, forgetL, doCall, und, lenOf, bor, binInt, shiftB, shiftOp, intOp, wrapI, strK, intK, readCells, cellsOf, oneOf, aggB, cel, rowK, List.append_nil, List.length_cons, List.length_nil, Int.reduceLE, gt_iff_lt, not_false_eq_true, decide_true, Bool.and_true, true_and, Nat.zero_add, beq_self_eq_true, reduceCtorEq, memr, List.take_succ_cons, List.take_zero, List.drop_zero, Nat.ble, writeCells, setAll, Cont.size, Cont.set, Cont.sub, upd_same, List.all_cons, List.all_nil, Option.some.injEq, exists_eq_left', Int.reduceToNat, ne_eq, true_and, List.length_cons, List.length_nil, convert, convStr, isU8, List.getD_cons_zero, hb, hp, wrap_u8 _ hp0, fd256, hl2, reduceCtorEq, not_false_eq_true]
        refine opv_yield (l := L29 (x0 :: AVal.junk :: x2 :: .ptr c3 0 :: .ptr c4 0 :: x5 :: x6 :: AVal.junk :: x8 :: AVal.junk :: AVal.junk :: x11 :: x12 :: x13 :: AVal.junk :: x15 :: AVal.junk :: AVal.junk :: AVal.junk :: AVal.junk :: AVal.junk :: AVal.junk :: x22 :: AVal.junk :: AVal.junk :: AVal.junk :: AVal.junk :: AVal.junk :: AVal.junk :: AVal.junk :: AVal.junk :: AVal.junk :: AVal.junk :: AVal.junk :: AVal.junk :: [])) (by rw [upd_ne _ _ (by omega)]; exact hi) rfl rfl ?_
        simp (disch := first | omega | exact NB _ rfl _) only [ra54_0, List.getD_cons_zero, putAll, List.zip_cons_cons, List.zip_nil_left, L29, rangesOf, Try.f54, Option.getD_some, core1, fgr, execOp, opd, putT, put, nth, forgetL, unOp, List.nil_append, List.append_nil, true_and]
        refine ⟨_, by rw [upd_ne _ _ (by omega)]; exact hi, rfl, ?_⟩
        have ha := and128 (m % 256) hm2
        by_cases hbig : 128 ≤ m % 256
        · rw [if_pos hbig] at ha
          simp (disch := first | omega | exact NB _ rfl _) only [rb54_0, List.getD_cons_zero, L29, rangesOf, Try.f54, Option.getD_some, core1, tyr, fgr, execOp, opd, opds, ofValue, ops2, putT, put, nth, forgetL, doCall, builtin, two2, und, bor, binInt, shiftB, intOp, wrapI, unOp, readCells, cellsOf, oneOf, aggB, cel, newRow, getO, rowK, List.cons_append, List.nil_append, List.append_nil, List.length_cons, List.length_nil, Nat.reduceAdd, Nat.beq, Int.reduceLT, gt_iff_lt, decide_true, Bool.not_true, Bool.not_false, Bool.and_true, Bool.true_and, true_and, Nat.zero_add, Nat.zero_mul, memr, buildSlice, reps, fill, List.take_succ_cons, List.take_zero, List.drop_succ_cons, List.drop_zero, Nat.ble, Nat.one_mul, Cont.size, Cont.sub, upd_ne, Option.some.injEq, exists_eq_left', true_and, List.length_cons, List.length_nil, Nat.zero_mul, h3, h4, Int.toNat_natCast, ha]
          refine own_append (i := ⟨.int .u8, 1, 1, .int .u8 0⟩) (e := 5) (xs := acc.map u8) (ys := [.int .u8 ((m % 256 : Nat) : Int), .int .u8 ((sg neg : Nat) : Int)]) (cnt := cnt) (e2 := 5)
            (ho.keep (by omega) fun j hj => by rw [upd_ne _ _ (by have := jn j hj; omega), upd_ne _ _ (by have := hid j hj; omega), upd_ne _ _ (by have := hid j hj; omega)]) rfl rfl ti5 (upd_same _ _ _) rfl (by decide) (by decide) rfl
            (fun e => by have := jn _ e; omega) (by simp only [Nat.mul_one]; omega) (by omega) ?_
          intro v1 H1 ho1 hid1 hold1
          have g3 : H1 c3 = some (.row (.l [v]) 22) := by rw [hold1 _ (by omega) (fun e => (hid _ e).2.1 rfl), upd_ne _ _ (by omega), upd_ne _ _ (by omega), upd_ne _ _ (by omega)]; exact h3
          have g4 : H1 c4 = some (.row (.l [.int .u8 ((sg neg : Nat) : Int)]) 5) := by rw [hold1 _ (by omega) (fun e => (hid _ e).2.2.1 rfl), upd_ne _ _ (by omega), upd_ne _ _ (by omega), upd_ne _ _ (by omega)]; exact h4
          have gb : H1 b = some (.row (.l [.int .u64 0]) 110) := by rw [hold1 _ (by omega) (fun e => (hid _ e).2.2.2.1 rfl), upd_ne _ _ (by omega), upd_ne _ _ (by omega)]; exact upd_same _ _ _
          have gi := hold1 id (by omega) (fun e => (hid _ e).2.2.2.2 rfl)
          rw [upd_ne _ _ (by omega), upd_same] at gi
          simp (disch := first | omega | exact NB _ rfl _) only [core1, cont_block_any, tyr, fgr, execOp, opd, putT, put, nth, forgetL, rowK, List.length_cons, List.length_nil, not_false_eq_true, Bool.not_false, Bool.and_true, true_and, Nat.zero_add, reduceCtorEq, memr, Nat.ble, writeCells, setAll, Cont.size, Cont.set, upd_ne, List.all_cons, List.all_nil, Option.some.injEq, exists_eq_left', ne_eq, true_and, List.length_cons, List.length_nil, g3, gi, ho1.kind, Blk.loop.injEq, normB, jumpOf]
          have hfin : fin (sg neg) (dig m) = [UInt8.ofNat (m % 256), UInt8.ofNat (sg neg)] := by
            rw [hdl, fin_hi _ _ (by simp) (by simp only [List.getLast_singleton, hby]; exact hbig)]; rfl
          have hsg : sg neg < 256 := by cases neg <;> decide
          refine hq v1 _ (n + 1 + 1) (cnt + 2) .ret _ _ ?_ (upd_same _ _ _) ?_ (by omega) ?_ (fun j hj => ?_) (fun j hj => ?_)
          · exact .inr ⟨rfl, rfl, rfl⟩
          · rw [upd_ne _ _ (by omega)]; exact upd_same _ _ _
          · rw [hfin, List.map_append, List.map_cons, List.map_singleton, u8_ofNat, u8_ofNat, Nat.mod_mod, Nat.mod_eq_of_lt hsg]
            exact ho1.keep (Nat.le_refl _) fun j hj => by rw [hid1] at hj; injection hj with hj; rw [upd_ne _ _ (by omega), upd_ne _ _ (by omega)]
          · rw [hid1] at hj; injection hj with hj; omega
          · rw [upd_ne _ _ (by omega), upd_ne _ _ (by omega), hold1 j (by omega) (fun e => by have := hid j e; omega), upd_ne _ _ (by omega), upd_ne _ _ (by omega), upd_ne _ _ (by omega)]
        · rw [if_neg hbig] at ha
          have hor := or128 (m % 256) (by omega) neg
          simp (disch := first | omega | exact NB _ rfl _) only [rb54_0, List.getD_cons_zero, L29, rangesOf, Try.f54, Option.getD_some, core1, tyr, fgr, execOp, opd, opds, ofValue, ops2, putT, put, nth, forgetL, doCall, builtin, two2, und, bor, binInt, shiftB, intOp, wrapI, unOp, readCells, cellsOf, oneOf, aggB, cel, newRow, getO, rowK, List.cons_append, List.nil_append, List.append_nil, List.length_cons, List.length_nil, Nat.beq, Int.reduceLT, gt_iff_lt, decide_true, decide_false, Bool.not_true, Bool.not_false, Bool.and_true, Bool.true_and, true_and, Nat.zero_add, Nat.zero_mul, memr, buildSlice, reps, fill, List.take_succ_cons, List.take_zero, List.drop_succ_cons, List.drop_zero, Nat.ble, Nat.one_mul, Cont.size, Cont.sub, upd_ne, Option.some.injEq, exists_eq_left', true_and, List.length_cons, List.length_nil, Nat.zero_mul, h3, h4, Int.toNat_natCast, ha, hor]
          refine own_append (i := ⟨.int .u8, 1, 1, .int .u8 0⟩) (e := 5) (xs := acc.map u8) (ys := [.int .u8 ((m % 256 + sg neg : Nat) : Int)]) (cnt := cnt) (e2 := 5)
            (ho.keep (by omega) fun j hj => by rw [upd_ne _ _ (by have := jn j hj; omega), upd_ne _ _ (by have := hid j hj; omega), upd_ne _ _ (by have := hid j hj; omega)]) rfl rfl ti5 (upd_same _ _ _) rfl (by decide) (by decide) rfl
            (fun e => by have := jn _ e; omega) (by simp only [Nat.mul_one]; omega) (by omega) ?_
          intro v1 H1 ho1 hid1 hold1
          have g3 : H1 c3 = some (.row (.l [v]) 22) := by rw [hold1 _ (by omega) (fun e => (hid _ e).2.1 rfl), upd_ne _ _ (by omega), upd_ne _ _ (by omega), upd_ne _ _ (by omega)]; exact h3
          have g4 : H1 c4 = some (.row (.l [.int .u8 ((sg neg : Nat) : Int)]) 5) := by rw [hold1 _ (by omega) (fun e => (hid _ e).2.2.1 rfl), upd_ne _ _ (by omega), upd_ne _ _ (by omega), upd_ne _ _ (by omega)]; exact h4
          have gb : H1 b = some (.row (.l [.int .u64 0]) 110) := by rw [hold1 _ (by omega) (fun e => (hid _ e).2.2.2.1 rfl), upd_ne _ _ (by omega), upd_ne _ _ (by omega)]; exact upd_same _ _ _
          have gi := hold1 id (by omega) (fun e => (hid _ e).2.2.2.2 rfl)
          rw [upd_ne _ _ (by omega), upd_same] at gi
          simp (disch := first | omega | exact NB _ rfl _) only [core1, tyr, fgr, execOp, opd, putT, put, nth, forgetL, rowK, List.length_cons, List.length_nil, not_false_eq_true, Bool.not_true, Bool.and_true, true_and, Nat.zero_add, reduceCtorEq, memr, Nat.ble, writeCells, setAll, Cont.size, Cont.set, upd_ne, List.all_cons, List.all_nil, Option.some.injEq, exists_eq_left', ne_eq, true_and, List.length_cons, List.length_nil, g3, gi, ho1.kind, Blk.loop.injEq, normB, jumpOf]
          have hsg : sg neg ≤ 128 := by cases neg <;> decide
          have hfin : fin (sg neg) (dig m) = [UInt8.ofNat (m % 256 + sg neg)] := by
            rw [hdl, fin_lo _ _ (by simp) (by simp only [List.getLast_singleton, hby]; exact hbig)]
            simp only [List.getLast_singleton, hby]; rfl
          have hacc : Own H1 (n + 1 + 1) 5 1 v1 (cnt + 1) ((acc ++ [UInt8.ofNat (m % 256 + sg neg)]).map u8) := by
            rw [List.map_append, List.map_singleton, u8_ofNat, Nat.mod_eq_of_lt (by omega)]; exact ho1
          refine ih 0 (by omega) (acc ++ [UInt8.ofNat (m % 256 + sg neg)]) (cnt + 1) v1 _ (n + 1 + 1) _ _ _ _ _ _ _ _ _ _ _ _ _ _ (by omega) (by omega) ?_ ?_ ?_ (upd_same _ _ _) ?_ ?_ (by rw [hdl] at hbd; simp [dig_zero] at hbd ⊢; omega) ?_
          · rw [upd_ne _ _ (by omega)]; exact upd_same _ _ _
          · rw [upd_ne _ _ (by omega), upd_ne _ _ (by omega)]; exact g4
          · rw [upd_ne _ _ (by omega), upd_ne _ _ (by omega)]; exact gb
          · exact hacc.keep (Nat.le_refl _) fun j hj => by rw [hid1] at hj; injection hj with hj; rw [upd_ne _ _ (by omega), upd_ne _ _ (by omega)]
          · intro j hj; rw [hid1] at hj; injection hj with hj; omega
          · intro v2 h2 n2 cnt2 e tm2 l he hl2 h32 hn2 ho2 hid2 hold2
            refine hq v2 h2 n2 cnt2 e tm2 l he hl2 h32 hn2 ?_ hid2 (fun j hj => ?_)
            · rw [hfin]; simpa [dig_zero, fin_nil] using ho2
            · rw [hold2 j hj, upd_ne _ _ (by omega), upd_ne _ _ (by omega), hold1 j (by omega) (fun e => by have := hid j e; omega), upd_ne _ _ (by omega), upd_ne _ _ (by omega), upd_ne _ _ (by omega)]
      · have hl2 : ¬ ((m / 256 : Nat) : Int) = 0 := by omega
        simp (disch := first | omega | exact NB _ rfl _) only [lp105_0, loopsOf, Try.f105, Option.getD_some, core1, tyr, fgr, execOp, opd, opds, ofValue, putT, put, nth, forgetL, doCall, und, lenOf, bor, binInt, shiftB, shiftOp, intOp, wrapI, strK, intK, readCells, cellsOf, oneOf, aggB, cel, rowK, List.append_nil, List.length_cons, List.length_nil, int_beq, Int.reduceLE, gt_iff_lt, not_false_eq_true, decide_true, decide_false, Bool.and_true, true_and, Nat.zero_add, reduceCtorEq, memr, List.take_succ_cons, List.take_zero, List.drop_zero, Nat.ble, writeCells, setAll, Cont.size, Cont.set, Cont.sub, upd_same, List.all_cons, List.all_nil, Option.some.injEq, exists_eq_left', Int.reduceToNat, ne_eq, true_and, List.length_cons, List.length_nil, convert, convStr, isU8, List.getD_cons_zero, hb, hp, wrap_u8 _ hp0, fd256, hl2, reduceCtorEq, not_false_eq_true]
        refine opv_yield (l := L29 (x0 :: AVal.junk :: x2 :: .ptr c3 0 :: .ptr c4 0 :: x5 :: x6 :: AVal.junk :: x8 :: AVal.junk :: AVal.junk :: x11 :: x12 :: x13 :: AVal.junk :: x15 :: AVal.junk :: AVal.junk :: AVal.junk :: AVal.junk :: AVal.junk :: AVal.junk :: x22 :: AVal.junk :: AVal.junk :: AVal.junk :: AVal.junk :: AVal.junk :: AVal.junk :: AVal.junk :: AVal.junk :: AVal.junk :: AVal.junk :: AVal.junk :: AVal.junk :: [])) (by rw [upd_ne _ _ (by omega)]; exact hi) rfl rfl ?_
        simp (disch := first | omega | exact NB _ rfl _) only [ra54_0, List.getD_cons_zero, putAll, List.zip_cons_cons, List.zip_nil_left, L29, rangesOf, Try.f54, Option.getD_some, core1, fgr, execOp, opd, putT, put, nth, forgetL, unOp, List.nil_append, List.append_nil, true_and]
        refine ⟨_, by rw [upd_ne _ _ (by omega)]; exact hi, rfl, ?_⟩
        simp (disch := first | omega | exact NB _ rfl _) only [rb54_0, List.getD_cons_zero, L29, rangesOf, Try.f54, Option.getD_some, core1, tyr, fgr, execOp, opd, opds, ops2, putT, put, nth, forgetL, doCall, builtin, two2, und, unOp, readCells, cellsOf, oneOf, aggB, cel, newRow, getO, rowK, List.cons_append, List.nil_append, List.append_nil, List.length_cons, List.length_nil, Nat.beq, Bool.not_false, Bool.and_true, Bool.true_and, true_and, Nat.zero_add, Nat.zero_mul, memr, buildSlice, reps, fill, List.take_succ_cons, List.take_zero, List.drop_succ_cons, List.drop_zero, Nat.ble, Nat.one_mul, Cont.size, Cont.sub, upd_ne, Option.some.injEq, exists_eq_left', true_and, List.length_cons, List.length_nil, Nat.zero_mul, h3]
        have jn : ∀ j, ownId v = some j → j < n := fun j hj => ho.id_lt hj
        refine own_append (i := ⟨.int .u8, 1, 1, .int .u8 0⟩) (e := 5) (xs := acc.map u8) (ys := [.int .u8 (((m : Int).toNat % 256 : Nat) : Int)]) (cnt := cnt) (e2 := 5)
          (ho.keep (by omega) fun j hj => by rw [upd_ne _ _ (by have := jn j hj; omega), upd_ne _ _ (by have := hid j hj; omega), upd_ne _ _ (by have := hid j hj; omega)]) rfl rfl ti5 (upd_same _ _ _) rfl (by decide) (by decide) rfl
          (fun e => by have := jn _ e; omega) (by simp only [Nat.mul_one]; omega) (by omega) ?_
        intro v1 H1 ho1 hid1 hold1
        have g3 : H1 c3 = some (.row (.l [v]) 22) := by rw [hold1 _ (by omega) (fun e => (hid _ e).2.1 rfl), upd_ne _ _ (by omega), upd_ne _ _ (by omega), upd_ne _ _ (by omega)]; exact h3
        have g4 : H1 c4 = some (.row (.l [.int .u8 ((sg neg : Nat) : Int)]) 5) := by rw [hold1 _ (by omega) (fun e => (hid _ e).2.2.1 rfl), upd_ne _ _ (by omega), upd_ne _ _ (by omega), upd_ne _ _ (by omega)]; exact h4
        have gb : H1 b = some (.row (.l [.int .u64 ((m / 256 : Nat) : Int)]) 110) := by rw [hold1 _ (by omega) (fun e => (hid _ e).2.2.2.1 rfl), upd_ne _ _ (by omega), upd_ne _ _ (by omega)]; exact upd_same _ _ _
        have gi := hold1 id (by omega) (fun e => (hid _ e).2.2.2.2 rfl)
        rw [upd_ne _ _ (by omega), upd_same] at gi
        simp (disch := first | omega | exact NB _ rfl _) only [core1, tyr, fgr, execOp, opd, putT, put, nth, forgetL, rowK, List.length_cons, List.length_nil, not_false_eq_true, Bool.not_true, Bool.and_true, true_and, Nat.zero_add, reduceCtorEq, memr, Nat.ble, writeCells, setAll, Cont.size, Cont.set, upd_ne, List.all_cons, List.all_nil, Option.some.injEq, exists_eq_left', ne_eq, true_and, List.length_cons, List.length_nil, g3, gi, ho1.kind, Blk.loop.injEq, normB, jumpOf]
        have hdl := dig_pos (m := m) (by omega)
        have hdl2 := dig_pos (m := m / 256) (by omega)
        have hlen : (dig m).length = (dig (m / 256)).length + 1 := by rw [hdl]; rfl
        have hacc : Own H1 (n + 1 + 1) 5 1 v1 (cnt + 1) ((acc ++ [UInt8.ofNat (m % 256)]).map u8) := by
          rw [List.map_append, List.map_singleton, u8_ofNat, Nat.mod_mod]; rw [Int.toNat_natCast] at ho1; exact ho1
        refine ih (m / 256) (Nat.div_lt_self (by omega) (by decide)) (acc ++ [UInt8.ofNat (m % 256)]) (cnt + 1) v1 _ (n + 1 + 1) _ _ _ _ _ _ _ _ _ _ _ _ _ _ (by omega) (by omega) ?_ ?_ ?_ (upd_same _ _ _) ?_ ?_ (by omega) ?_
        · rw [upd_ne _ _ (by omega)]; exact upd_same _ _ _
        · rw [upd_ne _ _ (by omega), upd_ne _ _ (by omega)]; exact g4
        · rw [upd_ne _ _ (by omega), upd_ne _ _ (by omega)]; exact gb
        · exact hacc.keep (Nat.le_refl _) fun j hj => by rw [hid1] at hj; injection hj with hj; rw [upd_ne _ _ (by omega), upd_ne _ _ (by omega)]
        · intro j hj; rw [hid1] at hj; injection hj with hj; omega
        · intro v2 h2 n2 cnt2 e tm2 l he hl2 h32 hn2 ho2 hid2 hold2
          refine hq v2 h2 n2 cnt2 e tm2 l he hl2 h32 hn2 ?_ hid2 (fun j hj => ?_)
          · rw [hdl, hdl2, fin_cons, ← hdl2]; simpa using ho2
          · rw [hold2 j hj, upd_ne _ _ (by omega), upd_ne _ _ (by omega), hold1 j (by omega) (fun e => by have := hid j e; omega), upd_ne _ _ (by omega), upd_ne _ _ (by omega), upd_ne _ _ (by omega)]
theorem f54 (neg : Bool) (m : Nat) (hm : m < 9223372036854775808) (hn : neg = true → 0 < m) (h : Hp) (n : Nat) : Wp (callI env (evalW env) 54 [.int .i64 (sv neg m)]) h n fun v' h' n' => ∃ cnt, Own h' n' 5 1 v' cnt ((fin (sg neg) (dig m)).map u8) ∧ (∀ j, ownId v' = some j → n ≤ j) ∧ Old h h' n := by
  refine wp_callI ff54 fi54 ?_
  have hdl : (dig m).length ≤ 8 := dig_len 8 _ (by have : m < 18446744073709551616 := by omega
                                                   exact this)
  have hz2 : ¬ (m : Int) < 0 := by omega
  have hz5 : ((sv neg m).natAbs : Int) = m := by cases neg <;> simp [sv]
  have hz6 : decide (sv neg m < 0) = neg := by
    cases neg with
    | false => simp only [sv, hz2]; rfl
    | true => have := hn rfl; simp [sv]; omega
  have hz7 : -9223372036854775808 < sv neg m := by cases neg <;> simp only [sv] <;> omega
  have hz8 : sv neg m ≤ 9223372036854775807 := by cases neg <;> simp only [sv] <;> omega
  cases neg with
  | true =>
    simp (disch := first | omega | exact NB _ rfl _) only [fu54, Try.f54, Option.getD_some, List.replicate, core1, tyr, fgr, hkr, execOp, opd, opds, ofValue, putT, put, nth, forgetL, doCall, callV_func, zeroOf, bor, binInt, shiftB, intOp, cel, alloc, doAlloc, newRow, ended, resultOf, oneOrTup, rowK, List.cons_append, List.nil_append, List.append_nil, List.length_cons, List.length_nil, Nat.reduceSub, not_false_eq_true, decide_true, Bool.and_true, true_and, Nat.zero_add, wp_pure, reduceCtorEq, memr, Nat.ble, writeCells, setAll, Cont.size, Cont.set, upd_same, List.all_cons, List.all_nil, Option.some.injEq, exists_eq_left', ne_eq, true_and, List.length_cons, List.length_nil, hz6, c81, c80, hz5]
    refine run_range (g := 105) (first := []) (cap := [.ptr (n + 1 + 1) 0]) rfl rfl ?_
    refine wp_callI ff105 fi105 ?_
    simp only [fu105, Try.f105, Option.getD_some, List.replicate, core1, fgr, ended, resultOf, oneOrTup, List.cons_append, List.nil_append, List.length_cons, List.length_nil, Nat.reduceAdd, Nat.reduceSub, Nat.zero_add, wp_pure]
    refine loop105 _ _ n n (n + 1) (n + 1 + 1) (n + 1 + 1 + 1) true _ _ _ _ _ _ _ _ _ _ (by omega) (by omega) m [] 0 .nils _ (n + 1 + 1 + 1 + 1) _ _ _ _ _ _ _ _ _ _ _ _ _ _ (by omega) (by omega) ?_ ?_ ?_ (upd_same _ _ _) .nil (fun j hj => by cases hj) (by omega) ?_
    · simp (disch := first | omega | exact NB _ rfl _) only [upd_same, upd_ne]
    · simp (disch := first | omega | exact NB _ rfl _) only [upd_same, upd_ne]; rfl
    · simp (disch := first | omega | exact NB _ rfl _) only [upd_same, upd_ne]
    · intro v h1 n1 cnt e tm' l he hl hv hn1 ho hid hold
      rcases he with ⟨rfl, hs1, hs2⟩ | ⟨rfl, hs1, hs2⟩
      · simp only [core1, true_and]
        refine ⟨l, hl, by rw [hs1]; simp, .normal, by rw [hs2], ?_⟩
        simp (disch := first | omega | exact NB _ rfl _) only [core1, tyr, fgr, execOp, opd, putT, put, nth, forgetL, readCells, cellsOf, oneOf, aggB, rowK, List.length_cons, List.length_nil, true_and, Nat.zero_add, memr, List.take_succ_cons, List.take_zero, List.drop_zero, Nat.ble, Cont.size, Cont.sub, upd_ne, Option.some.injEq, exists_eq_left', true_and, List.length_cons, List.length_nil, hv]
        refine ⟨cnt, ?_, fun j hj => (hid j hj).1, fun j hj => ?_⟩
        · rw [List.nil_append] at ho; exact ho.keep (Nat.le_refl _) fun j hj => upd_ne _ _ (hid j hj).2
        · rw [upd_ne _ _ (by omega), hold j hj]
          simp (disch := first | omega | exact NB _ rfl _) only [upd_ne]
      · simp only [core1, true_and]
        refine ⟨l, hl, by rw [hs1]; simp, .exit 0, by rw [hs2], ?_⟩
        simp (disch := first | omega | exact NB _ rfl _) only [core1, tyr, fgr, execOp, opd, putT, put, nth, forgetL, readCells, cellsOf, oneOf, aggB, rowK, List.length_cons, List.length_nil, true_and, Nat.zero_add, memr, List.take_succ_cons, List.take_zero, List.drop_zero, Nat.ble, Cont.size, Cont.sub, upd_ne, Option.some.injEq, exists_eq_left', true_and, List.length_cons, List.length_nil, hv]
        refine ⟨cnt, ?_, fun j hj => (hid j hj).1, fun j hj => ?_⟩
        · rw [List.nil_append] at ho; exact ho.keep (Nat.le_refl _) fun j hj => upd_ne _ _ (hid j hj).2
        · rw [upd_ne _ _ (by omega), hold j hj]
          simp (disch := first | omega | exact NB _ rfl _) only [upd_ne]
  | false =>
    simp (disch := first | omega | exact NB _ rfl _) only [fu54, Try.f54, Option.getD_some, List.replicate, core1, tyr, fgr, hkr, execOp, opd, opds, ofValue, putT, put, nth, forgetL, doCall, callV_func, zeroOf, bor, binInt, shiftB, intOp, cel, alloc, doAlloc, newRow, ended, resultOf, oneOrTup, rowK, List.cons_append, List.nil_append, List.append_nil, List.length_cons, List.length_nil, Nat.reduceSub, not_false_eq_true, decide_true, Bool.and_true, true_and, Nat.zero_add, wp_pure, reduceCtorEq, memr, Nat.ble, writeCells, setAll, Cont.size, Cont.set, upd_same, List.all_cons, List.all_nil, Option.some.injEq, exists_eq_left', ne_eq, true_and, List.length_cons, List.length_nil, hz6, c81, c80, hz5]
    refine run_range (g := 105) (first := []) (cap := [.ptr (n + 1 + 1) 0]) rfl rfl ?_
    refine wp_callI ff105 fi105 ?_
    simp only [fu105, Try.f105, Option.getD_some, List.replicate, core1, fgr, ended, resultOf, oneOrTup, List.cons_append, List.nil_append, List.length_cons, List.length_nil, Nat.reduceAdd, Nat.reduceSub, Nat.zero_add, wp_pure]
    refine loop105 _ _ n n (n + 1) (n + 1 + 1) (n + 1 + 1 + 1) false _ _ _ _ _ _ _ _ _ _ (by omega) (by omega) m [] 0 .nils _ (n + 1 + 1 + 1 + 1) _ _ _ _ _ _ _ _ _ _ _ _ _ _ (by omega) (by omega) ?_ ?_ ?_ (upd_same _ _ _) .nil (fun j hj => by cases hj) (by omega) ?_
    · simp (disch := first | omega | exact NB _ rfl _) only [upd_same, upd_ne]
    · simp (disch := first | omega | exact NB _ rfl _) only [upd_same, upd_ne]; rfl
    · simp (disch := first | omega | exact NB _ rfl _) only [upd_same, upd_ne]
    · intro v h1 n1 cnt e tm' l he hl hv hn1 ho hid hold
      rcases he with ⟨rfl, hs1, hs2⟩ | ⟨rfl, hs1, hs2⟩
      · simp only [core1, true_and]
        refine ⟨l, hl, by rw [hs1]; simp, .normal, by rw [hs2], ?_⟩
        simp (disch := first | omega | exact NB _ rfl _) only [core1, tyr, fgr, execOp, opd, putT, put, nth, forgetL, readCells, cellsOf, oneOf, aggB, rowK, List.length_cons, List.length_nil, true_and, Nat.zero_add, memr, List.take_succ_cons, List.take_zero, List.drop_zero, Nat.ble, Cont.size, Cont.sub, upd_ne, Option.some.injEq, exists_eq_left', true_and, List.length_cons, List.length_nil, hv]
        refine ⟨cnt, ?_, fun j hj => (hid j hj).1, fun j hj => ?_⟩
        · rw [List.nil_append] at ho; exact ho.keep (Nat.le_refl _) fun j hj => upd_ne _ _ (hid j hj).2
        · rw [upd_ne _ _ (by omega), hold j hj]
          simp (disch := first | omega | exact NB _ rfl _) only [upd_ne]
      · simp only [core1, true_and]
        refine ⟨l, hl, by rw [hs1]; simp, .exit 0, by rw [hs2], ?_⟩
        simp (disch := first | omega | exact NB _ rfl _) only [core1, tyr, fgr, execOp, opd, putT, put, nth, forgetL, readCells, cellsOf, oneOf, aggB, rowK, List.length_cons, List.length_nil, true_and, Nat.zero_add, memr, List.take_succ_cons, List.take_zero, List.drop_zero, Nat.ble, Cont.size, Cont.sub, upd_ne, Option.some.injEq, exists_eq_left', true_and, List.length_cons, List.length_nil, hv]
        refine ⟨cnt, ?_, fun j hj => (hid j hj).1, fun j hj => ?_⟩
        · rw [List.nil_append] at ho; exact ho.keep (Nat.le_refl _) fun j hj => upd_ne _ _ (hid j hj).2
        · rw [upd_ne _ _ (by omega), hold j hj]
          simp (disch := first | omega | exact NB _ rfl _) only [upd_ne]
theorem sv_of (x : Int) : ∃ neg m, x = sv neg m ∧ (neg = true → 0 < m) ∧ m = x.natAbs ∧ sg neg = sgn x := by
  by_cases h : x < 0
  · exact ⟨true, x.natAbs, by simp only [sv]; omega, (fun _ => by omega), rfl, by simp [sg, sgn, h]⟩
  · exact ⟨false, x.natAbs, by simp only [sv]; omega, (fun e => by cases e), rfl, by simp [sg, sgn, h]⟩
def Made (h : Hp) (n : Nat) (l : List UInt8) (v : AVal) (h' : Hp) (n' : Nat) : Prop := Bytes h' v l ∧ Below0 n' v ∧ Old h h' n
theorem f54x (x : Int) (h1 : -9223372036854775808 < x) (h2 : x ≤ 9223372036854775807) (h : Hp) (n : Nat) : Wp (callI env (evalW env) 54 [.int .i64 x]) h n (Made h n (fmB x)) := by
  obtain ⟨neg, m, e1, e2, e3, e4⟩ := sv_of x
  have := f54 neg m (by omega) e2 h n
  rw [← e1, e3, e4] at this
  exact wp_mono this fun v h' n' ⟨cnt, a, b, c⟩ => ⟨a.bytes, a.below, c⟩
theorem f56x (x : Int) (h1 : -9223372036854775808 < x) (h2 : x ≤ 9223372036854775807) (h : Hp) (n : Nat) : Wp (callI env (evalW env) 56 [.int .i64 x]) h n (Made h n (fmB x)) := by
  obtain ⟨neg, m, e1, e2, e3, e4⟩ := sv_of x
  have := f56a neg m (by omega) e2 h n
  rw [← e1, e3, e4] at this
  exact wp_mono this fun v h' n' ⟨cnt, a, b, c⟩ => ⟨a.bytes, a.below, c⟩
def wideB (x : Int) : Bool := decide (x ≤ -549755813888) || decide (549755813888 ≤ x)
def encL (x : Int) : List UInt8 := match wideB x with | true => [] | false => fmB x
def encE (x : Int) : Int := match wideB x with | true => 110 | false => 0
def Made2 (h : Hp) (n : Nat) (l : List UInt8) (e : Int) (v : AVal) (h' : Hp) (n' : Nat) : Prop := ∃ s, v = .tup [s, .int .i64 e] ∧ Made h n l s h' n'
theorem f17 (x : Int) (h1 : -9223372036854775808 ≤ x) (h2 : x ≤ 9223372036854775807) (h : Hp) (n : Nat) : Wp (callI env (evalW env) 17 [.int .i64 x]) h n (Made2 h n (encL x) (encE x)) := by
  refine wp_callI ff17 fi17 ?_
  by_cases e1 : x ≤ -549755813888
  · have hw : wideB x = true := by simp [wideB, e1]
    simp only [fu17, Try.f17, Option.getD_some, List.replicate, fgr, bor, doPick, Nat.reduceSub, Int.reduceNeg, e1, encL, encE, hw, gE]
    exact ⟨.nils, rfl, .nils, trivial, Old.refl _ _⟩
  · by_cases e2 : 549755813888 ≤ x
    · have hw : wideB x = true := by simp [wideB, e2]
      simp only [fu17, Try.f17, Option.getD_some, List.replicate, fgr, bor, doPick, Nat.reduceSub, Int.reduceNeg, ge_iff_le, e1, e2, encL, encE, hw, gE]
      exact ⟨.nils, rfl, .nils, trivial, Old.refl _ _⟩
    · have hw : wideB x = false := by simp [wideB, e1, e2]
      simp only [fu17, Try.f17, Option.getD_some, List.replicate, fgr, hkr, bor, doPick, Nat.reduceSub, Int.reduceNeg, ge_iff_le, e1, e2, encL, encE, hw, gE]
      refine opv_call (f54x x (by omega) (by omega) h n) fun v h' n' hn hv => ?_
      simp only [fgr, gE]
      exact ⟨v, rfl, hv⟩
theorem t9 : und env 9 = M.pure .string := rfl
theorem t5 : und env 5 = M.pure (.int .u8) := rfl
theorem f55 (v w : AVal) (a b : List UInt8) (h : Hp) (n : Nat) (hv : Bytes h v a) (hw : Bytes h w b) : Wp (callI env (evalW env) 55 [v, w]) h n fun v' h' n' => v' = .bool (decide (a = b)) ∧ h' = h ∧ n' = n := by
  refine wp_callI ff55 fi55 ?_
  simp only [fu55, Try.f55, Option.getD_some, List.replicate, fgr, bor, strOp, Nat.reduceAdd, Nat.reduceSub, hv.str t22 t9 t5, hw.str t22 t9 t5, gE]
def tv : List UInt8 → Bool
  | [] => false
  | [b] => decide (¬ b.toNat = 0) && decide (¬ b.toNat = 128)
  | b :: c :: l => decide (¬ b.toNat = 0) || tv (c :: l)
theorem tv_drop (l : List UInt8) (i : Nat) (hi : i < l.length) : tv (l.drop i) = if i = l.length - 1 then decide (¬ l[i].toNat = 0) && decide (¬ l[i].toNat = 128) else decide (¬ l[i].toNat = 0) || tv (l.drop (i + 1)) := by
  rw [List.drop_eq_getElem_cons hi]
  split
  · have : l.drop (i + 1) = [] := by rw [List.drop_eq_nil_iff]; omega
    rw [this]; rfl
  · have h2 : i + 1 < l.length := by omega
    rw [List.drop_eq_getElem_cons h2]; rfl
theorem loop19 (Q : Post0) (ks : List Kf) (v : AVal) (l : List UInt8) (h : Hp) (n : Nat) (hb : Bytes h v l) (hlen : l.length < 1000000) (hT : tv l = true → ∀ (x0 x3 x4 x5 x6 x7 x8 x24 : AVal), Kont env 19 none Q ks .ret (x0 :: AVal.junk :: .bool true :: x3 :: x4 :: x5 :: x6 :: x7 :: x8 :: AVal.junk :: AVal.junk :: AVal.junk :: AVal.junk :: AVal.junk :: AVal.junk :: AVal.junk :: AVal.junk :: AVal.junk :: AVal.junk :: AVal.junk :: AVal.junk :: AVal.junk :: AVal.junk :: AVal.junk :: x24 :: AVal.junk :: []) h n) (hF : tv l = false → ∀ (x0 x2 x3 x4 x5 x6 x7 x8 x24 : AVal), Kont env 19 none Q ks (.exit 0) (x0 :: AVal.junk :: x2 :: x3 :: x4 :: x5 :: x6 :: x7 :: x8 :: AVal.junk :: AVal.junk :: AVal.junk :: AVal.junk :: AVal.junk :: AVal.junk :: AVal.junk :: AVal.junk :: AVal.junk :: AVal.junk :: AVal.junk :: AVal.junk :: AVal.junk :: AVal.junk :: AVal.junk :: x24 :: AVal.junk :: []) h n) :
    ∀ (k i : Nat) (x2 x3 x4 x8 x24 : AVal), i + k = l.length → tv (l.drop i) = tv l → Run env 19 none Q (.loop lp19_0) ks (v :: AVal.junk :: x2 :: x3 :: x4 :: v :: .int .i64 (l.length : Nat) :: .int .i64 (i : Nat) :: x8 :: AVal.junk :: AVal.junk :: AVal.junk :: AVal.junk :: AVal.junk :: AVal.junk :: AVal.junk :: AVal.junk :: AVal.junk :: AVal.junk :: AVal.junk :: AVal.junk :: AVal.junk :: AVal.junk :: AVal.junk :: x24 :: AVal.junk :: []) h n := by
  intro k
  induction k with
  | zero =>
    intro i x2 x3 x4 x8 x24 hi ht
    rw [run_loop]
    have hc : ¬ ((i : Int) < ((l.length : Nat) : Int)) := by omega
    have hd : l.drop i = [] := by rw [List.drop_eq_nil_iff]; omega
    rw [hd] at ht
    simp only [lp19_0, loopsOf, Try.f19, Option.getD_some, fgr, bor, List.getD_cons_zero, hc, gE]
    exact hF ht.symm _ _ _ _ _ _ _ _ _
  | succ k ih =>
    intro i x2 x3 x4 x8 x24 hi ht
    rw [run_loop]
    have hil : i < l.length := by omega
    have hc : ((i : Int) < ((l.length : Nat) : Int)) := by omega
    have hi1 : 0 ≤ (i : Int) ∧ (i : Int) < ((l.length : Nat) : Int) := by omega
    have htv := tv_drop l i hil
    have hnext : (l[i].toNat = 0 ∨ (l[i].toNat = 128 ∧ i = l.length - 1)) → tv (l.drop (i + 1)) = tv l := by
      intro hh
      rw [← ht, htv]
      split
      · rename_i e
        have : l.drop (i + 1) = [] := by rw [List.drop_eq_nil_iff]; omega
        rw [this]
        rcases hh with hh | ⟨hh, _⟩ <;> simp [hh, tv]
      · rename_i e
        rcases hh with hh | ⟨_, hh⟩
        · simp [hh]
        · exact absurd hh e
    have hyes : ¬ l[i].toNat = 0 → (¬ l[i].toNat = 128 ∨ ¬ i = l.length - 1) → tv l = true := by
      intro h1 h2
      rw [← ht, htv]
      split
      · rename_i e
        rcases h2 with h2 | h2
        · simp [h1, h2]
        · exact absurd e h2
      · simp [h1]
    have hw1 : IntKind.i64.wrap (((l.length : Nat) : Int) - 1) = ((l.length : Nat) : Int) - 1 := w64 (by omega) (by omega)
    have hw2 : IntKind.i64.wrap ((i : Int) + 1) = ((i + 1 : Nat) : Int) := by rw [w64 (by omega) (by omega)]; omega
    by_cases e1 : ((l[i].toNat : Nat) : Int) = 0
    · simp only [lp19_0, loopsOf, Try.f19, Option.getD_some, u8, fgr, bor, wrapI, doPick, List.getD_cons_zero, hc, hb.index t22 s5, hi1, Int.toNat_natCast, hb.load ti5 rfl hil, e1, hw2, gE]
      exact ih (i + 1) _ _ _ _ _ (by omega) (hnext (.inl (by omega)))
    · by_cases e2 : ((l[i].toNat : Nat) : Int) = 128
      · by_cases e3 : i = l.length - 1
        · have e4 : ¬ ((i : Int) < ((l.length : Nat) : Int) - 1) := by omega
          simp only [lp19_0, loopsOf, Try.f19, Option.getD_some, u8, fgr, builtin, bor, wrapI, doPick, Int.reduceEq, List.getD_cons_zero, hc, hb.index t22 s5, hi1, Int.toNat_natCast, hb.load ti5 rfl hil, e2, hb.bLen t22, hw1, hw2, e4, gE]
          exact ih (i + 1) _ _ _ _ _ (by omega) (hnext (.inr ⟨by omega, e3⟩))
        · have e4 : ((i : Int) < ((l.length : Nat) : Int) - 1) := by omega
          simp only [lp19_0, loopsOf, Try.f19, Option.getD_some, u8, fgr, builtin, bor, wrapI, doPick, Int.reduceEq, List.getD_cons_zero, hc, hb.index t22 s5, hi1, Int.toNat_natCast, hb.load ti5 rfl hil, e2, hb.bLen t22, hw1, e4, gE]
          exact hT (hyes (by omega) (.inr e3)) _ _ _ _ _ _ _ _
      · simp only [lp19_0, loopsOf, Try.f19, Option.getD_some, u8, fgr, bor, doPick, List.getD_cons_zero, hc, hb.index t22 s5, hi1, Int.toNat_natCast, hb.load ti5 rfl hil, e1, e2, gE]
        exact hT (hyes (by omega) (.inl (by omega))) _ _ _ _ _ _ _ _
theorem f19 (v : AVal) (l : List UInt8) (h : Hp) (n : Nat) (hb : Bytes h v l) (hlen : l.length < 1000000) : Wp (callI env (evalW env) 19 [v]) h n fun v' h' n' => v' = .bool (tv l) ∧ h' = h ∧ n' = n := by
  refine wp_callI ff19 fi19 ?_
  simp only [fu19, Try.f19, Option.getD_some, List.replicate, fgr, builtin, Nat.reduceSub, hb.bLen t22, gE]
  refine loop19 _ _ v l h n hb hlen ?_ ?_ l.length 0 _ _ _ _ _ (by omega) rfl
  · intro hT x0 x3 x4 x5 x6 x7 x8 x24
    simp only [core1, nth, and_self, hT]
  · intro hF x0 x2 x3 x4 x5 x6 x7 x8 x24
    simp only [fgr, hF, gE]
theorem loop22 (Q : Post0) (ks : List Kf) (v : AVal) (l : List UInt8) (h : Hp) (n : Nat) (hb : Bytes h v l) (hlen : l.length < 1000000) (hT : ∀ b, tv l = b → ∀ (x0 x3 x7 x21 x26 : AVal), Kont env 22 none Q ks .ret (x0 :: AVal.junk :: .bool b :: x3 :: AVal.junk :: AVal.junk :: AVal.junk :: x7 :: AVal.junk :: AVal.junk :: AVal.junk :: AVal.junk :: AVal.junk :: AVal.junk :: AVal.junk :: AVal.junk :: AVal.junk :: AVal.junk :: AVal.junk :: AVal.junk :: AVal.junk :: x21 :: AVal.junk :: AVal.junk :: AVal.junk :: AVal.junk :: x26 :: []) h n) (hF : tv l = false → ∀ (x0 x2 x3 x7 x21 x26 : AVal), Kont env 22 none Q ks (.exit 0) (x0 :: AVal.junk :: x2 :: x3 :: AVal.junk :: AVal.junk :: AVal.junk :: x7 :: AVal.junk :: AVal.junk :: AVal.junk :: AVal.junk :: AVal.junk :: AVal.junk :: AVal.junk :: AVal.junk :: AVal.junk :: AVal.junk :: AVal.junk :: AVal.junk :: AVal.junk :: x21 :: AVal.junk :: AVal.junk :: AVal.junk :: AVal.junk :: x26 :: []) h n) :
    ∀ (k i : Nat) (x2 x7 x21 x26 : AVal), i + k = l.length → tv (l.drop i) = tv l → Run env 22 none Q (.loop lp22_0) ks (v :: AVal.junk :: x2 :: .int .i64 (i : Nat) :: AVal.junk :: AVal.junk :: AVal.junk :: x7 :: AVal.junk :: AVal.junk :: AVal.junk :: AVal.junk :: AVal.junk :: AVal.junk :: AVal.junk :: AVal.junk :: AVal.junk :: AVal.junk :: AVal.junk :: AVal.junk :: AVal.junk :: x21 :: AVal.junk :: AVal.junk :: AVal.junk :: AVal.junk :: x26 :: []) h n := by
  intro k
  induction k with
  | zero =>
    intro i x2 x7 x21 x26 hi ht
    rw [run_loop]
    have hc : ¬ ((i : Int) < ((l.length : Nat) : Int)) := by omega
    have hd : l.drop i = [] := by rw [List.drop_eq_nil_iff]; omega
    rw [hd] at ht
    simp only [lp22_0, loopsOf, Try.f22, Option.getD_some, fgr, builtin, bor, List.getD_cons_zero, hb.bLen t22, hc, gE]
    exact hF ht.symm _ _ _ _ _ _
  | succ k ih =>
    intro i x2 x7 x21 x26 hi ht
    rw [run_loop]
    have hil : i < l.length := by omega
    have hc : ((i : Int) < ((l.length : Nat) : Int)) := by omega
    have hi1 : 0 ≤ (i : Int) ∧ (i : Int) < ((l.length : Nat) : Int) := by omega
    have htv := tv_drop l i hil
    have hw1 : IntKind.i64.wrap (((l.length : Nat) : Int) - 1) = ((l.length : Nat) : Int) - 1 := w64 (by omega) (by omega)
    have hw2 : IntKind.i64.wrap ((i : Int) + 1) = ((i + 1 : Nat) : Int) := by rw [w64 (by omega) (by omega)]; omega
    by_cases e2 : ((l[i].toNat : Nat) : Int) = 128
    · by_cases e3 : i = l.length - 1
      · have e4 : ((i : Int) = ((l.length : Nat) : Int) - 1) := by omega
        simp only [lp22_0, loopsOf, Try.f22, Option.getD_some, u8, fgr, builtin, bor, wrapI, doPick, List.getD_cons_zero, hc, hb.index t22 s5, hi1, Int.toNat_natCast, hb.load ti5 rfl hil, e2, hb.bLen t22, hw1, eq_true e4, gE]
        refine hT false ?_ _ _ _ _ _
        rw [← ht, htv, if_pos e3]; simp; omega
      · have e4 : ¬ ((i : Int) = ((l.length : Nat) : Int) - 1) := by omega
        simp only [lp22_0, loopsOf, Try.f22, Option.getD_some, u8, fgr, builtin, bor, wrapI, doPick, Int.reduceEq, List.getD_cons_zero, hc, hb.index t22 s5, hi1, Int.toNat_natCast, hb.load ti5 rfl hil, e2, hb.bLen t22, hw1, e4, gE]
        refine hT true ?_ _ _ _ _ _
        rw [← ht, htv, if_neg e3]
        have : ¬ l[i].toNat = 0 := by omega
        simp [this]
    · by_cases e1 : ((l[i].toNat : Nat) : Int) = 0
      · simp only [lp22_0, loopsOf, Try.f22, Option.getD_some, u8, fgr, builtin, bor, wrapI, doPick, Int.reduceEq, List.getD_cons_zero, hc, hb.index t22 s5, hi1, Int.toNat_natCast, hb.load ti5 rfl hil, e1, hb.bLen t22, hw2, gE]
        refine ih (i + 1) _ _ _ _ (by omega) ?_
        rw [← ht, htv]
        have e0 : l[i].toNat = 0 := by omega
        split
        · have : l.drop (i + 1) = [] := by rw [List.drop_eq_nil_iff]; omega
          rw [this]; simp [e0, tv]
        · simp [e0]
      · simp only [lp22_0, loopsOf, Try.f22, Option.getD_some, u8, fgr, builtin, bor, doPick, List.getD_cons_zero, hc, hb.index t22 s5, hi1, Int.toNat_natCast, hb.load ti5 rfl hil, e1, e2, hb.bLen t22, gE]
        refine hT true ?_ _ _ _ _ _
        rw [← ht, htv]
        have e0 : ¬ l[i].toNat = 0 := by omega
        have e9 : ¬ l[i].toNat = 128 := by omega
        split <;> simp [e0, e9]
theorem f22 (v : AVal) (l : List UInt8) (h : Hp) (n : Nat) (hb : Bytes h v l) (hlen : l.length < 1000000) : Wp (callI env (evalW env) 22 [v]) h n fun v' h' n' => v' = .bool (tv l) ∧ h' = h ∧ n' = n := by
  refine wp_callI ff22 fi22 ?_
  simp only [fu22, Try.f22, Option.getD_some, List.replicate, fgr, Nat.reduceSub, gE]
  refine loop22 _ _ v l h n hb hlen ?_ ?_ l.length 0 _ _ _ _ (by omega) rfl
  · intro b hT x0 x3 x7 x21 x26
    simp only [core1, nth, and_self, hT]
  · intro hF x0 x2 x3 x7 x21 x26
    simp only [fgr, hF, gE]
theorem or_gen (x y : Nat) (k : Nat) (hx : x < 2 ^ k) (hy : y < 256) (hk : k ≤ 24) : IntKind.i64.wrap (((BitVec.ofInt IntKind.i64.bits (x : Int)) ||| (BitVec.ofInt IntKind.i64.bits ((y * 2 ^ k : Nat) : Int))).toNat : Int) = ((x + y * 2 ^ k : Nat) : Int) := by
  have h1 : 2 ^ k ≤ 2 ^ 24 := Nat.pow_le_pow_right (by decide) hk
  have h2 : y * 2 ^ k ≤ 255 * 2 ^ 24 := Nat.mul_le_mul (by omega) h1
  have hb : IntKind.i64.bits = 64 := rfl
  rw [BitVec.toNat_or, BitVec.ofInt_natCast, BitVec.ofInt_natCast, BitVec.toNat_ofNat, BitVec.toNat_ofNat, hb, Nat.mod_eq_of_lt (by omega), Nat.mod_eq_of_lt (by omega), Nat.mul_comm y, Nat.or_comm, ← Nat.two_pow_add_eq_or_of_lt hx]
  rw [Nat.mul_comm y] at h2
  rw [w64 (by omega) (by omega), Nat.add_comm]
theorem or0 (y : Int) (h : 0 ≤ y) (hy : y < 256) : IntKind.i64.wrap (((BitVec.ofInt IntKind.i64.bits 0) ||| (BitVec.ofInt IntKind.i64.bits y)).toNat : Int) = y := by
  obtain ⟨m, rfl⟩ : ∃ m : Nat, y = m := ⟨y.toNat, by omega⟩
  have := or_gen 0 m 0 (by decide) (by omega) (by decide)
  simpa using this
theorem or8 (x y : Int) (hx : 0 ≤ x) (hx2 : x < 256) (h : 0 ≤ y) (hy : y < 256) : IntKind.i64.wrap (((BitVec.ofInt IntKind.i64.bits x) ||| (BitVec.ofInt IntKind.i64.bits (y * 256))).toNat : Int) = x + y * 256 := by
  obtain ⟨m, rfl⟩ : ∃ m : Nat, y = m := ⟨y.toNat, by omega⟩
  obtain ⟨k, rfl⟩ : ∃ k : Nat, x = k := ⟨x.toNat, by omega⟩
  have := or_gen k m 8 (by omega) (by omega) (by decide)
  simpa using this
theorem or16 (x y : Int) (hx : 0 ≤ x) (hx2 : x < 65536) (h : 0 ≤ y) (hy : y < 256) : IntKind.i64.wrap (((BitVec.ofInt IntKind.i64.bits x) ||| (BitVec.ofInt IntKind.i64.bits (y * 65536))).toNat : Int) = x + y * 65536 := by
  obtain ⟨m, rfl⟩ : ∃ m : Nat, y = m := ⟨y.toNat, by omega⟩
  obtain ⟨k, rfl⟩ : ∃ k : Nat, x = k := ⟨x.toNat, by omega⟩
  have := or_gen k m 16 (by omega) (by omega) (by decide)
  simpa using this
theorem or24 (x y : Int) (hx : 0 ≤ x) (hx2 : x < 16777216) (h : 0 ≤ y) (hy : y < 256) : IntKind.i64.wrap (((BitVec.ofInt IntKind.i64.bits x) ||| (BitVec.ofInt IntKind.i64.bits (y * 16777216))).toNat : Int) = x + y * 16777216 := by
  obtain ⟨m, rfl⟩ : ∃ m : Nat, y = m := ⟨y.toNat, by omega⟩
  obtain ⟨k, rfl⟩ : ∃ k : Nat, x = k := ⟨x.toNat, by omega⟩
  have := or_gen k m 24 (by omega) (by omega) (by decide)
  simpa using this
theorem pw0 : (2 : Int) ^ (min 0 IntKind.i64.bits) = 1 := by decide
theorem pw8 : (2 : Int) ^ (min 8 IntKind.i64.bits) = 256 := by decide
theorem pw16 : (2 : Int) ^ (min 16 IntKind.i64.bits) = 65536 := by decide
theorem pw24 : (2 : Int) ^ (min 24 IntKind.i64.bits) = 16777216 := by decide
theorem not128 : ∀ a : Nat, a < 256 → 128 ≤ a → IntKind.u8.wrap (((BitVec.ofInt IntKind.u8.bits (a : Int)) &&& ~~~(BitVec.ofInt IntKind.u8.bits 128)).toNat : Int) = (a : Int) - 128 := by decide +kernel
def num4 : List UInt8 → Int
  | [a] => if 128 ≤ a.toNat then -((a.toNat : Int) - 128) else a.toNat
  | [a, b] => if 128 ≤ b.toNat then -(a.toNat + ((b.toNat : Int) - 128) * 256) else a.toNat + b.toNat * 256
  | [a, b, c] => if 128 ≤ c.toNat then -(a.toNat + (b.toNat : Int) * 256 + ((c.toNat : Int) - 128) * 65536) else a.toNat + b.toNat * 256 + c.toNat * 65536
  | [a, b, c, d] => if 128 ≤ d.toNat then -(a.toNat + (b.toNat : Int) * 256 + (c.toNat : Int) * 65536 + ((d.toNat : Int) - 128) * 16777216) else a.toNat + b.toNat * 256 + c.toNat * 65536 + d.toNat * 16777216
  | _ => 0
def decB (l : List UInt8) : Bool := decide (l.length ≤ 4) && decide (fmB (num4 l) = l)
def decN (l : List UInt8) : Int := match decB l with | true => num4 l | false => 0
def decE (l : List UInt8) : Int := match decB l with | true => 0 | false => 110
def Dec (h : Hp) (n : Nat) (l : List UInt8) (v' : AVal) (h' : Hp) (n' : Nat) : Prop := v' = .tup [.int .i64 (decN l), .int .i64 (decE l)] ∧ Old h h' n
theorem f18 (v : AVal) (l : List UInt8) (h : Hp) (n : Nat) (hb : Bytes h v l) (hv : Below0 n v) (hlen : l.length < 1000000) : Wp (callI env (evalW env) 18 [v]) h n (Dec h n l) := by
  refine wp_callI ff18 fi18 ?_
  simp only [fu18, Try.f18, Option.getD_some, List.replicate, fgr, builtin, bor, Nat.reduceSub, Int.reduceNeg, gt_iff_lt, hb.bLen t22, gE]
  by_cases h4 : 4 < ((l.length : Nat) : Int)
  · have hd : decB l = false := by unfold decB; rw [decide_eq_false (by omega)]; rfl
    simp only [fgr, Int.reduceNeg, h4, gE]
    exact ⟨by simp only [decN, decE, hd], Old.refl _ _⟩
  · simp only [fgr, builtin, Int.reduceNeg, h4, gE]
    match l, hb, h4 with
    | [], hb, h4 =>
      have hnum : num4 [] = 0 := rfl
      simp (maxSteps := 10000000) (disch := first | omega | exact NB _ rfl _) only [core1, fgr, hkr, execOp, opd, opds, ofValue, putT, put, nth, forgetL, doCall, callV_func, bor, binInt, shiftB, intOp, wrapI, List.nil_append, List.append_nil, List.length_nil, Int.cast_ofNat_Int, Int.reduceLT, Int.reduceNeg, decide_true, decide_false, run_loop, hb.bLen t22, w64, Int.mul_one]
      refine opv_call (f54x (0) (by omega) (by omega) h n) fun w h1 n1 hn1 ⟨hw, hwb, hold⟩ => ?_
      have hb1 := hb.old hv hold
      by_cases he : fmB (0) = []
      · have hd : decB [] = true := by unfold decB; rw [hnum, he]; simp
        simp only [fgr, hkr, unOp, opv_det (f55 w v _ _ h1 n1 hw hb1), he, gE]
        exact ⟨by simp only [decN, decE, hd, hnum], hold⟩
      · have hd : decB [] = false := by unfold decB; rw [hnum, decide_eq_false he]; simp
        simp only [fgr, hkr, unOp, opv_det (f55 w v _ _ h1 n1 hw hb1), he, gE]
        exact ⟨by simp only [decN, decE, hd], hold⟩
    | [a], hb, h4 =>
      have la := a.toNat_lt
      by_cases hg : 128 ≤ a.toNat
      · have ha := and128 a.toNat (by omega)
        rw [if_pos hg] at ha
        have hnum : num4 [a] = -(((a.toNat : Int) - 128)) := by simp only [num4, if_pos hg]
        have hm : (((a.toNat : Int) - 128)) * -1 = -(((a.toNat : Int) - 128)) := by omega
        simp (maxSteps := 10000000) (disch := first | omega | exact NB _ rfl _) only [core1, u8, tyr, fgr, hkr, execOp, opd, opds, ofValue, putT, put, nth, forgetL, doCall, callV_func, builtin, one1, und, lenOf, bor, binInt, shiftB, shiftOp, intOp, wrapI, strK, intK, doPick, branch, List.getElem?_cons_succ, List.getElem?_cons_zero, List.nil_append, List.append_nil, List.length_cons, List.length_nil, Int.cast_ofNat_Int, Int.reduceLT, Int.reduceLE, Int.reduceAdd, Int.reduceSub, Int.reduceMul, Int.reduceNeg, gt_iff_lt, decide_true, decide_false, true_and, and_self, Nat.zero_add, Int.toNat_zero, beq_self_eq_true, convert, convStr, isU8, run_loop, hb.bLen t22, hb.index t22 s5, hb.load (j := 0) ti5 rfl (by simp), List.getElem_cons_zero, or0, pw0, w64, Int.mul_one, not128, ha, hm]
        refine opv_call (f54x (-(((a.toNat : Int) - 128))) (by omega) (by omega) h n) fun w h1 n1 hn1 ⟨hw, hwb, hold⟩ => ?_
        have hb1 := hb.old hv hold
        by_cases he : fmB (-(((a.toNat : Int) - 128))) = [a]
        · have hd : decB [a] = true := by unfold decB; rw [hnum, he]; simp
          simp only [fgr, hkr, unOp, Int.reduceNeg, opv_det (f55 w v _ _ h1 n1 hw hb1), he, gE]
          exact ⟨by simp only [decN, decE, hd, hnum], hold⟩
        · have hd : decB [a] = false := by unfold decB; rw [hnum, decide_eq_false he]; simp
          simp only [fgr, hkr, unOp, Int.reduceNeg, opv_det (f55 w v _ _ h1 n1 hw hb1), he, gE]
          exact ⟨by simp only [decN, decE, hd], hold⟩
      · have ha := and128 a.toNat (by omega)
        rw [if_neg hg] at ha
        have hnum : num4 [a] = (a.toNat : Int) := by simp only [num4, if_neg hg]
        simp (maxSteps := 10000000) (disch := first | omega | exact NB _ rfl _) only [core1, u8, tyr, fgr, hkr, execOp, opd, opds, ofValue, putT, put, nth, forgetL, doCall, callV_func, builtin, one1, und, lenOf, bor, binInt, shiftB, shiftOp, intOp, wrapI, strK, intK, doPick, branch, List.getElem?_cons_succ, List.getElem?_cons_zero, List.nil_append, List.append_nil, List.length_cons, List.length_nil, Int.cast_ofNat_Int, Int.reduceLT, Int.reduceLE, Int.reduceAdd, Int.reduceSub, Int.reduceMul, Int.reduceNeg, gt_iff_lt, decide_true, decide_false, true_and, and_self, Nat.zero_add, Int.toNat_zero, beq_self_eq_true, convert, convStr, isU8, run_loop, hb.bLen t22, hb.index t22 s5, hb.load (j := 0) ti5 rfl (by simp), List.getElem_cons_zero, or0, pw0, w64, Int.mul_one, ha]
        refine opv_call (f54x ((a.toNat : Int)) (by omega) (by omega) h n) fun w h1 n1 hn1 ⟨hw, hwb, hold⟩ => ?_
        have hb1 := hb.old hv hold
        by_cases he : fmB ((a.toNat : Int)) = [a]
        · have hd : decB [a] = true := by unfold decB; rw [hnum, he]; simp
          simp only [fgr, hkr, unOp, opv_det (f55 w v _ _ h1 n1 hw hb1), he, gE]
          exact ⟨by simp only [decN, decE, hd, hnum], hold⟩
        · have hd : decB [a] = false := by unfold decB; rw [hnum, decide_eq_false he]; simp
          simp only [fgr, hkr, unOp, opv_det (f55 w v _ _ h1 n1 hw hb1), he, gE]
          exact ⟨by simp only [decN, decE, hd], hold⟩
    | [a, b], hb, h4 =>
      have la := a.toNat_lt
      have lb := b.toNat_lt
      by_cases hg : 128 ≤ b.toNat
      · have ha := and128 b.toNat (by omega)
        rw [if_pos hg] at ha
        have hnum : num4 [a, b] = -((a.toNat : Int) + ((b.toNat : Int) - 128) * 256) := by simp only [num4, if_pos hg]
        have hm : ((a.toNat : Int) + ((b.toNat : Int) - 128) * 256) * -1 = -((a.toNat : Int) + ((b.toNat : Int) - 128) * 256) := by omega
        simp (maxSteps := 10000000) (disch := first | omega | exact NB _ rfl _) only [core1, u8, tyr, fgr, hkr, execOp, opd, opds, ofValue, putT, put, nth, forgetL, doCall, callV_func, builtin, one1, und, lenOf, bor, binInt, shiftB, shiftOp, intOp, wrapI, strK, intK, doPick, branch, List.getElem?_cons_succ, List.getElem?_cons_zero, List.nil_append, List.append_nil, List.length_cons, List.length_nil, Nat.reduceAdd, Int.cast_ofNat_Int, int_beq, Int.reduceEq, Int.reduceLT, Int.reduceLE, Int.reduceAdd, Int.reduceSub, Int.reduceMul, Int.reduceNeg, gt_iff_lt, decide_true, decide_false, true_and, and_self, Nat.zero_add, Int.toNat_zero, beq_self_eq_true, convert, convStr, isU8, run_loop, Int.reduceToNat, hb.bLen t22, hb.index t22 s5, hb.load (j := 0) ti5 rfl (by simp), hb.load (j := 1) ti5 rfl (by simp), List.getElem_cons_zero, List.getElem_cons_succ, or0, or8, pw0, pw8, w64, Int.mul_one, not128, ha, hm]
        refine opv_call (f54x (-((a.toNat : Int) + ((b.toNat : Int) - 128) * 256)) (by omega) (by omega) h n) fun w h1 n1 hn1 ⟨hw, hwb, hold⟩ => ?_
        have hb1 := hb.old hv hold
        by_cases he : fmB (-((a.toNat : Int) + ((b.toNat : Int) - 128) * 256)) = [a, b]
        · have hd : decB [a, b] = true := by unfold decB; rw [hnum, he]; simp
          simp only [fgr, hkr, unOp, Int.reduceNeg, opv_det (f55 w v _ _ h1 n1 hw hb1), he, gE]
          exact ⟨by simp only [decN, decE, hd, hnum], hold⟩
        · have hd : decB [a, b] = false := by unfold decB; rw [hnum, decide_eq_false he]; simp
          simp only [fgr, hkr, unOp, Int.reduceNeg, opv_det (f55 w v _ _ h1 n1 hw hb1), he, gE]
          exact ⟨by simp only [decN, decE, hd], hold⟩
      · have ha := and128 b.toNat (by omega)
        rw [if_neg hg] at ha
        have hnum : num4 [a, b] = (a.toNat : Int) + (b.toNat : Int) * 256 := by simp only [num4, if_neg hg]
        simp (maxSteps := 10000000) (disch := first | omega | exact NB _ rfl _) only [core1, u8, tyr, fgr, hkr, execOp, opd, opds, ofValue, putT, put, nth, forgetL, doCall, callV_func, builtin, one1, und, lenOf, bor, binInt, shiftB, shiftOp, intOp, wrapI, strK, intK, doPick, branch, List.getElem?_cons_succ, List.getElem?_cons_zero, List.nil_append, List.append_nil, List.length_cons, List.length_nil, Nat.reduceAdd, Int.cast_ofNat_Int, int_beq, Int.reduceEq, Int.reduceLT, Int.reduceLE, Int.reduceAdd, Int.reduceSub, Int.reduceMul, Int.reduceNeg, gt_iff_lt, decide_true, decide_false, true_and, and_self, Nat.zero_add, Int.toNat_zero, beq_self_eq_true, convert, convStr, isU8, run_loop, Int.reduceToNat, hb.bLen t22, hb.index t22 s5, hb.load (j := 0) ti5 rfl (by simp), hb.load (j := 1) ti5 rfl (by simp), List.getElem_cons_zero, List.getElem_cons_succ, or0, or8, pw0, pw8, w64, Int.mul_one, ha]
        refine opv_call (f54x ((a.toNat : Int) + (b.toNat : Int) * 256) (by omega) (by omega) h n) fun w h1 n1 hn1 ⟨hw, hwb, hold⟩ => ?_
        have hb1 := hb.old hv hold
        by_cases he : fmB ((a.toNat : Int) + (b.toNat : Int) * 256) = [a, b]
        · have hd : decB [a, b] = true := by unfold decB; rw [hnum, he]; simp
          simp only [fgr, hkr, unOp, opv_det (f55 w v _ _ h1 n1 hw hb1), he, gE]
          exact ⟨by simp only [decN, decE, hd, hnum], hold⟩
        · have hd : decB [a, b] = false := by unfold decB; rw [hnum, decide_eq_false he]; simp
          simp only [fgr, hkr, unOp, opv_det (f55 w v _ _ h1 n1 hw hb1), he, gE]
          exact ⟨by simp only [decN, decE, hd], hold⟩
    | [a, b, c], hb, h4 =>
      have la := a.toNat_lt
      have lb := b.toNat_lt
      have lc := c.toNat_lt
      by_cases hg : 128 ≤ c.toNat
      · have ha := and128 c.toNat (by omega)
        rw [if_pos hg] at ha
        have hnum : num4 [a, b, c] = -((a.toNat : Int) + (b.toNat : Int) * 256 + ((c.toNat : Int) - 128) * 65536) := by simp only [num4, if_pos hg]
        have hm : ((a.toNat : Int) + (b.toNat : Int) * 256 + ((c.toNat : Int) - 128) * 65536) * -1 = -((a.toNat : Int) + (b.toNat : Int) * 256 + ((c.toNat : Int) - 128) * 65536) := by omega
        simp (maxSteps := 10000000) (disch := first | omega | exact NB _ rfl _) only [core1, u8, tyr, fgr, hkr, execOp, opd, opds, ofValue, putT, put, nth, forgetL, doCall, callV_func, builtin, one1, und, lenOf, bor, binInt, shiftB, shiftOp, intOp, wrapI, strK, intK, doPick, branch, List.getElem?_cons_succ, List.getElem?_cons_zero, List.nil_append, List.append_nil, List.length_cons, List.length_nil, Nat.reduceAdd, Int.cast_ofNat_Int, int_beq, Int.reduceEq, Int.reduceLT, Int.reduceLE, Int.reduceAdd, Int.reduceSub, Int.reduceMul, Int.reduceNeg, gt_iff_lt, decide_true, decide_false, true_and, and_self, Nat.zero_add, Int.toNat_zero, beq_self_eq_true, convert, convStr, isU8, run_loop, Int.reduceToNat, hb.bLen t22, hb.index t22 s5, hb.load (j := 0) ti5 rfl (by simp), hb.load (j := 1) ti5 rfl (by simp), hb.load (j := 2) ti5 rfl (by simp), List.getElem_cons_zero, List.getElem_cons_succ, or0, or8, or16, pw0, pw8, pw16, w64, Int.mul_one, not128, ha, hm]
        refine opv_call (f54x (-((a.toNat : Int) + (b.toNat : Int) * 256 + ((c.toNat : Int) - 128) * 65536)) (by omega) (by omega) h n) fun w h1 n1 hn1 ⟨hw, hwb, hold⟩ => ?_
        have hb1 := hb.old hv hold
        by_cases he : fmB (-((a.toNat : Int) + (b.toNat : Int) * 256 + ((c.toNat : Int) - 128) * 65536)) = [a, b, c]
        · have hd : decB [a, b, c] = true := by unfold decB; rw [hnum, he]; simp
          simp only [fgr, hkr, unOp, Int.reduceNeg, opv_det (f55 w v _ _ h1 n1 hw hb1), he, gE]
          exact ⟨by simp only [decN, decE, hd, hnum], hold⟩
        · have hd : decB [a, b, c] = false := by unfold decB; rw [hnum, decide_eq_false he]; simp
          simp only [fgr, hkr, unOp, Int.reduceNeg, opv_det (f55 w v _ _ h1 n1 hw hb1), he, gE]
          exact ⟨by simp only [decN, decE, hd], hold⟩
      · have ha := and128 c.toNat (by omega)
        rw [if_neg hg] at ha
        have hnum : num4 [a, b, c] = (a.toNat : Int) + (b.toNat : Int) * 256 + (c.toNat : Int) * 65536 := by simp only [num4, if_neg hg]
        simp (maxSteps := 10000000) (disch := first | omega | exact NB _ rfl _) only [core1, u8, tyr, fgr, hkr, execOp, opd, opds, ofValue, putT, put, nth, forgetL, doCall, callV_func, builtin, one1, und, lenOf, bor, binInt, shiftB, shiftOp, intOp, wrapI, strK, intK, doPick, branch, List.getElem?_cons_succ, List.getElem?_cons_zero, List.nil_append, List.append_nil, List.length_cons, List.length_nil, Nat.reduceAdd, Int.cast_ofNat_Int, int_beq, Int.reduceEq, Int.reduceLT, Int.reduceLE, Int.reduceAdd, Int.reduceSub, Int.reduceMul, Int.reduceNeg, gt_iff_lt, decide_true, decide_false, true_and, and_self, Nat.zero_add, Int.toNat_zero, beq_self_eq_true, convert, convStr, isU8, run_loop, Int.reduceToNat, hb.bLen t22, hb.index t22 s5, hb.load (j := 0) ti5 rfl (by simp), hb.load (j := 1) ti5 rfl (by simp), hb.load (j := 2) ti5 rfl (by simp), List.getElem_cons_zero, List.getElem_cons_succ, or0, or8, or16, pw0, pw8, pw16, w64, Int.mul_one, ha]
        refine opv_call (f54x ((a.toNat : Int) + (b.toNat : Int) * 256 + (c.toNat : Int) * 65536) (by omega) (by omega) h n) fun w h1 n1 hn1 ⟨hw, hwb, hold⟩ => ?_
        have hb1 := hb.old hv hold
        by_cases he : fmB ((a.toNat : Int) + (b.toNat : Int) * 256 + (c.toNat : Int) * 65536) = [a, b, c]
        · have hd : decB [a, b, c] = true := by unfold decB; rw [hnum, he]; simp
          simp only [fgr, hkr, unOp, opv_det (f55 w v _ _ h1 n1 hw hb1), he, gE]
          exact ⟨by simp only [decN, decE, hd, hnum], hold⟩
        · have hd : decB [a, b, c] = false := by unfold decB; rw [hnum, decide_eq_false he]; simp
          simp only [fgr, hkr, unOp, opv_det (f55 w v _ _ h1 n1 hw hb1), he, gE]
          exact ⟨by simp only [decN, decE, hd], hold⟩
    | [a, b, c, d], hb, h4 =>
      have la := a.toNat_lt
      have lb := b.toNat_lt
      have lc := c.toNat_lt
      have ld := d.toNat_lt
      by_cases hg : 128 ≤ d.toNat
      · have ha := and128 d.toNat (by omega)
        rw [if_pos hg] at ha
        have hnum : num4 [a, b, c, d] = -((a.toNat : Int) + (b.toNat : Int) * 256 + (c.toNat : Int) * 65536 + ((d.toNat : Int) - 128) * 16777216) := by simp only [num4, if_pos hg]
        have hm : ((a.toNat : Int) + (b.toNat : Int) * 256 + (c.toNat : Int) * 65536 + ((d.toNat : Int) - 128) * 16777216) * -1 = -((a.toNat : Int) + (b.toNat : Int) * 256 + (c.toNat : Int) * 65536 + ((d.toNat : Int) - 128) * 16777216) := by omega
        simp (maxSteps := 10000000) (disch := first | omega | exact NB _ rfl _) only [core1, u8, tyr, fgr, hkr, execOp, opd, opds, ofValue, putT, put, nth, forgetL, doCall, callV_func, builtin, one1, und, lenOf, bor, binInt, shiftB, shiftOp, intOp, wrapI, strK, intK, doPick, branch, List.getElem?_cons_succ, List.getElem?_cons_zero, List.nil_append, List.append_nil, List.length_cons, List.length_nil, Nat.reduceAdd, Int.cast_ofNat_Int, int_beq, Int.reduceEq, Int.reduceLT, Int.reduceLE, Int.reduceAdd, Int.reduceSub, Int.reduceMul, Int.reduceNeg, gt_iff_lt, decide_true, decide_false, true_and, and_self, Nat.zero_add, Int.toNat_zero, beq_self_eq_true, convert, convStr, isU8, run_loop, Int.reduceToNat, hb.bLen t22, hb.index t22 s5, hb.load (j := 0) ti5 rfl (by simp), hb.load (j := 1) ti5 rfl (by simp), hb.load (j := 2) ti5 rfl (by simp), hb.load (j := 3) ti5 rfl (by simp), List.getElem_cons_zero, List.getElem_cons_succ, or0, or8, or16, or24, pw0, pw8, pw16, pw24, w64, Int.mul_one, not128, ha, hm]
        refine opv_call (f54x (-((a.toNat : Int) + (b.toNat : Int) * 256 + (c.toNat : Int) * 65536 + ((d.toNat : Int) - 128) * 16777216)) (by omega) (by omega) h n) fun w h1 n1 hn1 ⟨hw, hwb, hold⟩ => ?_
        have hb1 := hb.old hv hold
        by_cases he : fmB (-((a.toNat : Int) + (b.toNat : Int) * 256 + (c.toNat : Int) * 65536 + ((d.toNat : Int) - 128) * 16777216)) = [a, b, c, d]
        · have hd : decB [a, b, c, d] = true := by unfold decB; rw [hnum, he]; simp
          simp only [fgr, hkr, unOp, Int.reduceNeg, opv_det (f55 w v _ _ h1 n1 hw hb1), he, gE]
          exact ⟨by simp only [decN, decE, hd, hnum], hold⟩
        · have hd : decB [a, b, c, d] = false := by unfold decB; rw [hnum, decide_eq_false he]; simp
          simp only [fgr, hkr, unOp, Int.reduceNeg, opv_det (f55 w v _ _ h1 n1 hw hb1), he, gE]
          exact ⟨by simp only [decN, decE, hd], hold⟩
      · have ha := and128 d.toNat (by omega)
        rw [if_neg hg] at ha
        have hnum : num4 [a, b, c, d] = (a.toNat : Int) + (b.toNat : Int) * 256 + (c.toNat : Int) * 65536 + (d.toNat : Int) * 16777216 := by simp only [num4, if_neg hg]
        simp (maxSteps := 10000000) (disch := first | omega | exact NB _ rfl _) only [core1, u8, tyr, fgr, hkr, execOp, opd, opds, ofValue, putT, put, nth, forgetL, doCall, callV_func, builtin, one1, und, lenOf, bor, binInt, shiftB, shiftOp, intOp, wrapI, strK, intK, doPick, branch, List.getElem?_cons_succ, List.getElem?_cons_zero, List.nil_append, List.append_nil, List.length_cons, List.length_nil, Nat.reduceAdd, Int.cast_ofNat_Int, int_beq, Int.reduceEq, Int.reduceLT, Int.reduceLE, Int.reduceAdd, Int.reduceSub, Int.reduceMul, Int.reduceNeg, gt_iff_lt, decide_true, decide_false, true_and, and_self, Nat.zero_add, Int.toNat_zero, beq_self_eq_true, convert, convStr, isU8, run_loop, Int.reduceToNat, hb.bLen t22, hb.index t22 s5, hb.load (j := 0) ti5 rfl (by simp), hb.load (j := 1) ti5 rfl (by simp), hb.load (j := 2) ti5 rfl (by simp), hb.load (j := 3) ti5 rfl (by simp), List.getElem_cons_zero, List.getElem_cons_succ, or0, or8, or16, or24, pw0, pw8, pw16, pw24, w64, Int.mul_one, ha]
        refine opv_call (f54x ((a.toNat : Int) + (b.toNat : Int) * 256 + (c.toNat : Int) * 65536 + (d.toNat : Int) * 16777216) (by omega) (by omega) h n) fun w h1 n1 hn1 ⟨hw, hwb, hold⟩ => ?_
        have hb1 := hb.old hv hold
        by_cases he : fmB ((a.toNat : Int) + (b.toNat : Int) * 256 + (c.toNat : Int) * 65536 + (d.toNat : Int) * 16777216) = [a, b, c, d]
        · have hd : decB [a, b, c, d] = true := by unfold decB; rw [hnum, he]; simp
          simp only [fgr, hkr, unOp, opv_det (f55 w v _ _ h1 n1 hw hb1), he, gE]
          exact ⟨by simp only [decN, decE, hd, hnum], hold⟩
        · have hd : decB [a, b, c, d] = false := by unfold decB; rw [hnum, decide_eq_false he]; simp
          simp only [fgr, hkr, unOp, opv_det (f55 w v _ _ h1 n1 hw hb1), he, gE]
          exact ⟨by simp only [decN, decE, hd], hold⟩
    | a :: b :: c :: d :: e :: l, hb, h4 => exact absurd h4 (by simp; omega)
theorem fine21 (bs : List Nat) (hbs : bs = [0, 1, 3, 0, 8, 31]) (r2 r4 : List Nat) (n n1 : Nat) (h4 : ∀ id, id ∈ r4 → id < n) :
    fine bs [⟨5, [], [], n1, n1⟩, ⟨4, r4, [], n1, n1⟩, ⟨3, [], [], n1, n1⟩, ⟨2, r2, [], n1, n1⟩, ⟨1, [], [], n, n1⟩, ⟨0, [], [], n, n⟩] = true := by
  subst hbs
  have h5 : hits r4 ⟨1, [], [], n, n1⟩ = false := hits_low h4
  simp only [fine, clash, meets_nil, meets_nil', hits_same, hits_nil, h5, Bool.false_or, Bool.or_false, List.getD_cons_zero, List.getD_cons_succ, show Nat.testBit 3 1 = true from by decide, Bool.or_true, gF]
end Go.Am.Ytmoplhbncjicbaa
set_option linter.unusedSimpArgs false
set_option linter.unusedVariables false
set_option linter.defProp false
set_option maxRecDepth 10000
namespace Go.Am.Ytmoplhbncjicbaa
open Go Go.Am Go.Proofs
theorem f21 (v : AVal) (l : List UInt8) (h : Hp) (n : Nat) (hb : Bytes h v l) (hv : Below0 n v) (hfree : Free h n) (hlen : l.length < 1000000) : Wp (callI env (evalW env) 21 [v]) h n (Dec h n l) := by
 refine wp_callI ff21 fi21 ?_
 simp only [fu21, Try.f21, Option.getD_some, List.replicate, fgr, builtin, bor, Nat.reduceSub, gt_iff_lt, hb.bLen t22, gE]
 have hvid : ∀ id, id ∈ (ownId v).toList → id < n := by
  intro id hid
  cases v <;> simp only [ownId, Option.toList] at hid <;> first | (simp at hid; done) | (simp only [List.mem_singleton] at hid; subst hid; exact hv)
 by_cases h4 : 4 < ((l.length : Nat) : Int)
 ·have hd : decB l = false := by unfold decB; rw [decide_eq_false (by omega)]; rfl
  simp only [fgr, h4, gE]
  exact ⟨by simp only [decN, decE, hd], Old.refl _ _⟩
 ·simp only [fgr, h4, gE]
  match l, hb, h4 with
  | [], hb, h4 =>
   have hnum : num4 [] = 0 := rfl
   simp (maxSteps := 10000000) (disch := first | omega | exact NB _ rfl _) only [core1, fgr, execOp, opd, opds, putT, put, nth, forgetL, doCall, builtin, one1, bor, binInt, shiftB, intOp, List.length_nil, Int.cast_ofNat_Int, Int.reduceLT, decide_true, decide_false, run_loop, hb.bLen t22, eq_self]
   refine run_draw ⟨rfl, ?_⟩
   simp only [hkr, gE]
   refine fev_free hfree (f56x (0) (by omega) (by omega) _ _) (f56x (0) (by omega) (by omega) h n) fun w h1 n1 hn1 hf1 ⟨hw, hwb, hold⟩ => ?_
   have hb1 := hb.old hv hold
   simp only [Nat.reduceAdd, gE]
   rw [fev_rd (hw.str_rd t22 t9 t5)]
   simp only [Nat.reduceAdd, gE]
   rw [fev_rd (hb1.str_rd t22 t9 t5)]
   by_cases he : fmB (0) = []
   ·have hd : decB [] = true := by unfold decB; rw [hnum, he]; simp
    simp only [fgr, bor, strOp, Nat.reduceAdd, he, gE]
    refine ⟨fine21 _ rfl _ _ _ _ hvid, ?_⟩
    exact ⟨by simp only [decN, decE, hd, hnum], hold⟩
   ·have hd : decB [] = false := by unfold decB; rw [hnum, decide_eq_false he]; simp
    simp only [fgr, bor, strOp, Nat.reduceAdd, he, gE]
    refine ⟨fine21 _ rfl _ _ _ _ hvid, ?_⟩
    exact ⟨by simp only [decN, decE, hd], hold⟩
  | [a], hb, h4 =>
   have la := a.toNat_lt
   by_cases hg : 128 ≤ (a.toNat : Int)
   ·have hnum : num4 [a] = -(((a.toNat : Int) - 128)) := by simp only [num4, if_pos (show 128 ≤ a.toNat by omega)]
    simp (maxSteps := 10000000) (disch := first | omega | exact NB _ rfl _) only [core1, u8, tyr, fgr, execOp, opd, opds, ofValue, putT, put, nth, forgetL, doCall, builtin, one1, und, lenOf, bor, binInt, shiftB, intOp, wrapI, strK, intK, unOp, doPick, branch, List.getElem?_cons_succ, List.getElem?_cons_zero, List.length_cons, List.length_nil, Int.cast_ofNat_Int, Int.reduceLT, Int.reduceLE, Int.reduceSub, Int.reduceMul, ge_iff_le, decide_true, decide_false, true_and, and_self, Nat.zero_add, Int.toNat_zero, beq_self_eq_true, convert, convStr, isU8, run_loop, hb.bLen t22, hb.index t22 s5, hb.load (j := 0) ti5 rfl (by simp), List.getElem_cons_zero, w64, Int.mul_one, Int.zero_add, Int.zero_sub, eq_self, hg]
    refine run_draw ⟨rfl, ?_⟩
    simp only [hkr, gE]
    refine fev_free hfree (f56x (-(((a.toNat : Int) - 128))) (by omega) (by omega) _ _) (f56x (-(((a.toNat : Int) - 128))) (by omega) (by omega) h n) fun w h1 n1 hn1 hf1 ⟨hw, hwb, hold⟩ => ?_
    have hb1 := hb.old hv hold
    simp only [Nat.reduceAdd, gE]
    rw [fev_rd (hw.str_rd t22 t9 t5)]
    simp only [Nat.reduceAdd, gE]
    rw [fev_rd (hb1.str_rd t22 t9 t5)]
    by_cases he : fmB (-(((a.toNat : Int) - 128))) = [a]
    ·have hd : decB [a] = true := by unfold decB; rw [hnum, he]; simp
     simp only [fgr, bor, strOp, Nat.reduceAdd, he, gE]
     refine ⟨fine21 _ rfl _ _ _ _ hvid, ?_⟩
     exact ⟨by simp only [decN, decE, hd, hnum], hold⟩
    ·have hd : decB [a] = false := by unfold decB; rw [hnum, decide_eq_false he]; simp
     simp only [fgr, bor, strOp, Nat.reduceAdd, he, gE]
     refine ⟨fine21 _ rfl _ _ _ _ hvid, ?_⟩
     exact ⟨by simp only [decN, decE, hd], hold⟩
   ·have hnum : num4 [a] = (a.toNat : Int) := by simp only [num4, if_neg (show ¬ 128 ≤ a.toNat by omega)]
    simp (maxSteps := 10000000) (disch := first | omega | exact NB _ rfl _) only [core1, u8, tyr, fgr, execOp, opd, opds, ofValue, putT, put, nth, forgetL, doCall, builtin, one1, und, lenOf, bor, binInt, shiftB, intOp, wrapI, strK, intK, doPick, branch, List.getElem?_cons_succ, List.getElem?_cons_zero, List.length_cons, List.length_nil, Int.cast_ofNat_Int, Int.reduceLT, Int.reduceLE, Int.reduceSub, Int.reduceMul, ge_iff_le, decide_true, decide_false, true_and, and_self, Nat.zero_add, Int.toNat_zero, beq_self_eq_true, convert, convStr, isU8, run_loop, hb.bLen t22, hb.index t22 s5, hb.load (j := 0) ti5 rfl (by simp), List.getElem_cons_zero, w64, Int.mul_one, Int.zero_add, eq_self, hg]
    refine run_draw ⟨rfl, ?_⟩
    simp only [hkr, gE]
    refine fev_free hfree (f56x ((a.toNat : Int)) (by omega) (by omega) _ _) (f56x ((a.toNat : Int)) (by omega) (by omega) h n) fun w h1 n1 hn1 hf1 ⟨hw, hwb, hold⟩ => ?_
    have hb1 := hb.old hv hold
    simp only [Nat.reduceAdd, gE]
    rw [fev_rd (hw.str_rd t22 t9 t5)]
    simp only [Nat.reduceAdd, gE]
    rw [fev_rd (hb1.str_rd t22 t9 t5)]
    by_cases he : fmB ((a.toNat : Int)) = [a]
    ·have hd : decB [a] = true := by unfold decB; rw [hnum, he]; simp
     simp only [fgr, bor, strOp, Nat.reduceAdd, he, gE]
     refine ⟨fine21 _ rfl _ _ _ _ hvid, ?_⟩
     exact ⟨by simp only [decN, decE, hd, hnum], hold⟩
    ·have hd : decB [a] = false := by unfold decB; rw [hnum, decide_eq_false he]; simp
     simp only [fgr, bor, strOp, Nat.reduceAdd, he, gE]
     refine ⟨fine21 _ rfl _ _ _ _ hvid, ?_⟩
     exact ⟨by simp only [decN, decE, hd], hold⟩
  | [a, b], hb, h4 =>
   have la := a.toNat_lt
   have lb := b.toNat_lt
   by_cases hg : 128 ≤ (b.toNat : Int)
   ·have hnum : num4 [a, b] = -((a.toNat : Int) + ((b.toNat : Int) - 128) * 256) := by simp only [num4, if_pos (show 128 ≤ b.toNat by omega)]
    simp (maxSteps := 10000000) (disch := first | omega | exact NB _ rfl _) only [core1, u8, tyr, fgr, execOp, opd, opds, ofValue, putT, put, nth, forgetL, doCall, builtin, one1, und, lenOf, bor, binInt, shiftB, intOp, wrapI, strK, intK, unOp, doPick, branch, List.getElem?_cons_succ, List.getElem?_cons_zero, List.length_cons, List.length_nil, Nat.reduceAdd, Int.cast_ofNat_Int, int_beq, Int.reduceEq, Int.reduceLT, Int.reduceLE, Int.reduceAdd, Int.reduceSub, Int.reduceMul, ge_iff_le, decide_true, decide_false, true_and, and_self, Nat.zero_add, Int.toNat_zero, beq_self_eq_true, convert, convStr, isU8, run_loop, Int.reduceToNat, hb.bLen t22, hb.index t22 s5, hb.load (j := 0) ti5 rfl (by simp), hb.load (j := 1) ti5 rfl (by simp), List.getElem_cons_zero, List.getElem_cons_succ, w64, Int.mul_one, Int.zero_add, Int.zero_sub, eq_self, hg]
    refine run_draw ⟨rfl, ?_⟩
    simp only [hkr, gE]
    refine fev_free hfree (f56x (-((a.toNat : Int) + ((b.toNat : Int) - 128) * 256)) (by omega) (by omega) _ _) (f56x (-((a.toNat : Int) + ((b.toNat : Int) - 128) * 256)) (by omega) (by omega) h n) fun w h1 n1 hn1 hf1 ⟨hw, hwb, hold⟩ => ?_
    have hb1 := hb.old hv hold
    simp only [Nat.reduceAdd, gE]
    rw [fev_rd (hw.str_rd t22 t9 t5)]
    simp only [Nat.reduceAdd, gE]
    rw [fev_rd (hb1.str_rd t22 t9 t5)]
    by_cases he : fmB (-((a.toNat : Int) + ((b.toNat : Int) - 128) * 256)) = [a, b]
    ·have hd : decB [a, b] = true := by unfold decB; rw [hnum, he]; simp
     simp only [fgr, bor, strOp, Nat.reduceAdd, he, gE]
     refine ⟨fine21 _ rfl _ _ _ _ hvid, ?_⟩
     exact ⟨by simp only [decN, decE, hd, hnum], hold⟩
    ·have hd : decB [a, b] = false := by unfold decB; rw [hnum, decide_eq_false he]; simp
     simp only [fgr, bor, strOp, Nat.reduceAdd, he, gE]
     refine ⟨fine21 _ rfl _ _ _ _ hvid, ?_⟩
     exact ⟨by simp only [decN, decE, hd], hold⟩
   ·have hnum : num4 [a, b] = (a.toNat : Int) + (b.toNat : Int) * 256 := by simp only [num4, if_neg (show ¬ 128 ≤ b.toNat by omega)]
    simp (maxSteps := 10000000) (disch := first | omega | exact NB _ rfl _) only [core1, u8, tyr, fgr, execOp, opd, opds, ofValue, putT, put, nth, forgetL, doCall, builtin, one1, und, lenOf, bor, binInt, shiftB, intOp, wrapI, strK, intK, doPick, branch, List.getElem?_cons_succ, List.getElem?_cons_zero, List.length_cons, List.length_nil, Nat.reduceAdd, Int.cast_ofNat_Int, int_beq, Int.reduceEq, Int.reduceLT, Int.reduceLE, Int.reduceAdd, Int.reduceSub, Int.reduceMul, ge_iff_le, decide_true, decide_false, true_and, and_self, Nat.zero_add, Int.toNat_zero, beq_self_eq_true, convert, convStr, isU8, run_loop, Int.reduceToNat, hb.bLen t22, hb.index t22 s5, hb.load (j := 0) ti5 rfl (by simp), hb.load (j := 1) ti5 rfl (by simp), List.getElem_cons_zero, List.getElem_cons_succ, w64, Int.mul_one, Int.zero_add, eq_self, hg]
    refine run_draw ⟨rfl, ?_⟩
    simp only [hkr, gE]
    refine fev_free hfree (f56x ((a.toNat : Int) + (b.toNat : Int) * 256) (by omega) (by omega) _ _) (f56x ((a.toNat : Int) + (b.toNat : Int) * 256) (by omega) (by omega) h n) fun w h1 n1 hn1 hf1 ⟨hw, hwb, hold⟩ => ?_
    have hb1 := hb.old hv hold
    simp only [Nat.reduceAdd, gE]
    rw [fev_rd (hw.str_rd t22 t9 t5)]
    simp only [Nat.reduceAdd, gE]
    rw [fev_rd (hb1.str_rd t22 t9 t5)]
    by_cases he : fmB ((a.toNat : Int) + (b.toNat : Int) * 256) = [a, b]
    ·have hd : decB [a, b] = true := by unfold decB; rw [hnum, he]; simp
     simp only [fgr, bor, strOp, Nat.reduceAdd, he, gE]
     refine ⟨fine21 _ rfl _ _ _ _ hvid, ?_⟩
     exact ⟨by simp only [decN, decE, hd, hnum], hold⟩
    ·have hd : decB [a, b] = false := by unfold decB; rw [hnum, decide_eq_false he]; simp
     simp only [fgr, bor, strOp, Nat.reduceAdd, he, gE]
     refine ⟨fine21 _ rfl _ _ _ _ hvid, ?_⟩
     exact ⟨by simp only [decN, decE, hd], hold⟩
  | [a, b, c], hb, h4 =>
   have la := a.toNat_lt
   have lb := b.toNat_lt
   have lc := c.toNat_lt
   by_cases hg : 128 ≤ (c.toNat : Int)
   ·have hnum : num4 [a, b, c] = -((a.toNat : Int) + (b.toNat : Int) * 256 + ((c.toNat : Int) - 128) * 65536) := by simp only [num4, if_pos (show 128 ≤ c.toNat by omega)]
    simp (maxSteps := 10000000) (disch := first | omega | exact NB _ rfl _) only [core1, u8, tyr, fgr, execOp, opd, opds, ofValue, putT, put, nth, forgetL, doCall, builtin, one1, und, lenOf, bor, binInt, shiftB, intOp, wrapI, strK, intK, unOp, doPick, branch, List.getElem?_cons_succ, List.getElem?_cons_zero, List.length_cons, List.length_nil, Nat.reduceAdd, Int.cast_ofNat_Int, int_beq, Int.reduceEq, Int.reduceLT, Int.reduceLE, Int.reduceAdd, Int.reduceSub, Int.reduceMul, ge_iff_le, decide_true, decide_false, true_and, and_self, Nat.zero_add, Int.toNat_zero, beq_self_eq_true, convert, convStr, isU8, run_loop, Int.reduceToNat, hb.bLen t22, hb.index t22 s5, hb.load (j := 0) ti5 rfl (by simp), hb.load (j := 1) ti5 rfl (by simp), hb.load (j := 2) ti5 rfl (by simp), List.getElem_cons_zero, List.getElem_cons_succ, w64, Int.mul_one, Int.zero_add, Int.zero_sub, eq_self, hg]
    refine run_draw ⟨rfl, ?_⟩
    simp only [hkr, gE]
    refine fev_free hfree (f56x (-((a.toNat : Int) + (b.toNat : Int) * 256 + ((c.toNat : Int) - 128) * 65536)) (by omega) (by omega) _ _) (f56x (-((a.toNat : Int) + (b.toNat : Int) * 256 + ((c.toNat : Int) - 128) * 65536)) (by omega) (by omega) h n) fun w h1 n1 hn1 hf1 ⟨hw, hwb, hold⟩ => ?_
    have hb1 := hb.old hv hold
    simp only [Nat.reduceAdd, gE]
    rw [fev_rd (hw.str_rd t22 t9 t5)]
    simp only [Nat.reduceAdd, gE]
    rw [fev_rd (hb1.str_rd t22 t9 t5)]
    by_cases he : fmB (-((a.toNat : Int) + (b.toNat : Int) * 256 + ((c.toNat : Int) - 128) * 65536)) = [a, b, c]
    ·have hd : decB [a, b, c] = true := by unfold decB; rw [hnum, he]; simp
     simp only [fgr, bor, strOp, Nat.reduceAdd, he, gE]
     refine ⟨fine21 _ rfl _ _ _ _ hvid, ?_⟩
     exact ⟨by simp only [decN, decE, hd, hnum], hold⟩
    ·have hd : decB [a, b, c] = false := by unfold decB; rw [hnum, decide_eq_false he]; simp
     simp only [fgr, bor, strOp, Nat.reduceAdd, he, gE]
     refine ⟨fine21 _ rfl _ _ _ _ hvid, ?_⟩
     exact ⟨by simp only [decN, decE, hd], hold⟩
   ·have hnum : num4 [a, b, c] = (a.toNat : Int) + (b.toNat : Int) * 256 + (c.toNat : Int) * 65536 := by simp only [num4, if_neg (show ¬ 128 ≤ c.toNat by omega)]
    simp (maxSteps := 10000000) (disch := first | omega | exact NB _ rfl _) only [core1, u8, tyr, fgr, execOp, opd, opds, ofValue, putT, put, nth, forgetL, doCall, builtin, one1, und, lenOf, bor, binInt, shiftB, intOp, wrapI, strK, intK, doPick, branch, List.getElem?_cons_succ, List.getElem?_cons_zero, List.length_cons, List.length_nil, Nat.reduceAdd, Int.cast_ofNat_Int, int_beq, Int.reduceEq, Int.reduceLT, Int.reduceLE, Int.reduceAdd, Int.reduceSub, Int.reduceMul, ge_iff_le, decide_true, decide_false, true_and, and_self, Nat.zero_add, Int.toNat_zero, beq_self_eq_true, convert, convStr, isU8, run_loop, Int.reduceToNat, hb.bLen t22, hb.index t22 s5, hb.load (j := 0) ti5 rfl (by simp), hb.load (j := 1) ti5 rfl (by simp), hb.load (j := 2) ti5 rfl (by simp), List.getElem_cons_zero, List.getElem_cons_succ, w64, Int.mul_one, Int.zero_add, eq_self, hg]
    refine run_draw ⟨rfl, ?_⟩
    simp only [hkr, gE]
    refine fev_free hfree (f56x ((a.toNat : Int) + (b.toNat : Int) * 256 + (c.toNat : Int) * 65536) (by omega) (by omega) _ _) (f56x ((a.toNat : Int) + (b.toNat : Int) * 256 + (c.toNat : Int) * 65536) (by omega) (by omega) h n) fun w h1 n1 hn1 hf1 ⟨hw, hwb, hold⟩ => ?_
    have hb1 := hb.old hv hold
    simp only [Nat.reduceAdd, gE]
    rw [fev_rd (hw.str_rd t22 t9 t5)]
    simp only [Nat.reduceAdd, gE]
    rw [fev_rd (hb1.str_rd t22 t9 t5)]
    by_cases he : fmB ((a.toNat : Int) + (b.toNat : Int) * 256 + (c.toNat : Int) * 65536) = [a, b, c]
    ·have hd : decB [a, b, c] = true := by unfold decB; rw [hnum, he]; simp
     simp only [fgr, bor, strOp, Nat.reduceAdd, he, gE]
     refine ⟨fine21 _ rfl _ _ _ _ hvid, ?_⟩
     exact ⟨by simp only [decN, decE, hd, hnum], hold⟩
    ·have hd : decB [a, b, c] = false := by unfold decB; rw [hnum, decide_eq_false he]; simp
     simp only [fgr, bor, strOp, Nat.reduceAdd, he, gE]
     refine ⟨fine21 _ rfl _ _ _ _ hvid, ?_⟩
     exact ⟨by simp only [decN, decE, hd], hold⟩
  | [a, b, c, d], hb, h4 =>
   have la := a.toNat_lt
   have lb := b.toNat_lt
   have lc := c.toNat_lt
   have ld := d.toNat_lt
   by_cases hg : 128 ≤ (d.toNat : Int)
   ·have hnum : num4 [a, b, c, d] = -((a.toNat : Int) + (b.toNat : Int) * 256 + (c.toNat : Int) * 65536 + ((d.toNat : Int) - 128) * 16777216) := by simp only [num4, if_pos (show 128 ≤ d.toNat by omega)]
    simp (maxSteps := 10000000) (disch := first | omega | exact NB _ rfl _) only [core1, u8, tyr, fgr, execOp, opd, opds, ofValue, putT, put, nth, forgetL, doCall, builtin, one1, und, lenOf, bor, binInt, shiftB, intOp, wrapI, strK, intK, unOp, doPick, branch, List.getElem?_cons_succ, List.getElem?_cons_zero, List.length_cons, List.length_nil, Nat.reduceAdd, Int.cast_ofNat_Int, int_beq, Int.reduceEq, Int.reduceLT, Int.reduceLE, Int.reduceAdd, Int.reduceSub, Int.reduceMul, ge_iff_le, decide_true, decide_false, true_and, and_self, Nat.zero_add, Int.toNat_zero, beq_self_eq_true, convert, convStr, isU8, run_loop, Int.reduceToNat, hb.bLen t22, hb.index t22 s5, hb.load (j := 0) ti5 rfl (by simp), hb.load (j := 1) ti5 rfl (by simp), hb.load (j := 2) ti5 rfl (by simp), hb.load (j := 3) ti5 rfl (by simp), List.getElem_cons_zero, List.getElem_cons_succ, w64, Int.mul_one, Int.zero_add, Int.zero_sub, eq_self, hg]
    refine run_draw ⟨rfl, ?_⟩
    simp only [hkr, gE]
    refine fev_free hfree (f56x (-((a.toNat : Int) + (b.toNat : Int) * 256 + (c.toNat : Int) * 65536 + ((d.toNat : Int) - 128) * 16777216)) (by omega) (by omega) _ _) (f56x (-((a.toNat : Int) + (b.toNat : Int) * 256 + (c.toNat : Int) * 65536 + ((d.toNat : Int) - 128) * 16777216)) (by omega) (by omega) h n) fun w h1 n1 hn1 hf1 ⟨hw, hwb, hold⟩ => ?_
    have hb1 := hb.old hv hold
    simp only [Nat.reduceAdd, gE]
    rw [fev_rd (hw.str_rd t22 t9 t5)]
    simp only [Nat.reduceAdd, gE]
    rw [fev_rd (hb1.str_rd t22 t9 t5)]
    by_cases he : fmB (-((a.toNat : Int) + (b.toNat : Int) * 256 + (c.toNat : Int) * 65536 + ((d.toNat : Int) - 128) * 16777216)) = [a, b, c, d]
    ·have hd : decB [a, b, c, d] = true := by unfold decB; rw [hnum, he]; simp
     simp only [fgr, bor, strOp, Nat.reduceAdd, he, gE]
     refine ⟨fine21 _ rfl _ _ _ _ hvid, ?_⟩
     exact ⟨by simp only [decN, decE, hd, hnum], hold⟩
    ·have hd : decB [a, b, c, d] = false := by unfold decB; rw [hnum, decide_eq_false he]; simp
     simp only [fgr, bor, strOp, Nat.reduceAdd, he, gE]
     refine ⟨fine21 _ rfl _ _ _ _ hvid, ?_⟩
     exact ⟨by simp only [decN, decE, hd], hold⟩
   ·have hnum : num4 [a, b, c, d] = (a.toNat : Int) + (b.toNat : Int) * 256 + (c.toNat : Int) * 65536 + (d.toNat : Int) * 16777216 := by simp only [num4, if_neg (show ¬ 128 ≤ d.toNat by omega)]
    simp (maxSteps := 10000000) (disch := first | omega | exact NB _ rfl _) only [core1, u8, tyr, fgr, execOp, opd, opds, ofValue, putT, put, nth, forgetL, doCall, builtin, one1, und, lenOf, bor, binInt, shiftB, intOp, wrapI, strK, intK, doPick, branch, List.getElem?_cons_succ, List.getElem?_cons_zero, List.length_cons, List.length_nil, Nat.reduceAdd, Int.cast_ofNat_Int, int_beq, Int.reduceEq, Int.reduceLT, Int.reduceLE, Int.reduceAdd, Int.reduceSub, Int.reduceMul, ge_iff_le, decide_true, decide_false, true_and, and_self, Nat.zero_add, Int.toNat_zero, beq_self_eq_true, convert, convStr, isU8, run_loop, Int.reduceToNat, hb.bLen t22, hb.index t22 s5, hb.load (j := 0) ti5 rfl (by simp), hb.load (j := 1) ti5 rfl (by simp), hb.load (j := 2) ti5 rfl (by simp), hb.load (j := 3) ti5 rfl (by simp), List.getElem_cons_zero, List.getElem_cons_succ, w64, Int.mul_one, Int.zero_add, eq_self, hg]
    refine run_draw ⟨rfl, ?_⟩
    simp only [hkr, gE]
    refine fev_free hfree (f56x ((a.toNat : Int) + (b.toNat : Int) * 256 + (c.toNat : Int) * 65536 + (d.toNat : Int) * 16777216) (by omega) (by omega) _ _) (f56x ((a.toNat : Int) + (b.toNat : Int) * 256 + (c.toNat : Int) * 65536 + (d.toNat : Int) * 16777216) (by omega) (by omega) h n) fun w h1 n1 hn1 hf1 ⟨hw, hwb, hold⟩ => ?_
    have hb1 := hb.old hv hold
    simp only [Nat.reduceAdd, gE]
    rw [fev_rd (hw.str_rd t22 t9 t5)]
    simp only [Nat.reduceAdd, gE]
    rw [fev_rd (hb1.str_rd t22 t9 t5)]
    by_cases he : fmB ((a.toNat : Int) + (b.toNat : Int) * 256 + (c.toNat : Int) * 65536 + (d.toNat : Int) * 16777216) = [a, b, c, d]
    ·have hd : decB [a, b, c, d] = true := by unfold decB; rw [hnum, he]; simp
     simp only [fgr, bor, strOp, Nat.reduceAdd, he, gE]
     refine ⟨fine21 _ rfl _ _ _ _ hvid, ?_⟩
     exact ⟨by simp only [decN, decE, hd, hnum], hold⟩
    ·have hd : decB [a, b, c, d] = false := by unfold decB; rw [hnum, decide_eq_false he]; simp
     simp only [fgr, bor, strOp, Nat.reduceAdd, he, gE]
     refine ⟨fine21 _ rfl _ _ _ _ hvid, ?_⟩
     exact ⟨by simp only [decN, decE, hd], hold⟩
  | a :: b :: c :: d :: e :: l, hb, h4 => exact absurd h4 (by simp; omega)
def El (h : Hp) (D : Nat → Prop) (x : AVal) (l : List UInt8) : Prop := Bytes h x l ∧ ∀ j, ownId x = some j → D j
theorem El.mono {h h' : Hp} {D D' : Nat → Prop} {x : AVal} {l : List UInt8} (he : El h D x l) (hd : ∀ j, D j → D' j) (hk : ∀ j, D j → h' j = h j) : El h' D' x l :=
 ⟨he.1.keep fun j hj => hk j (he.2 j hj), fun j hj => hd j (he.2 j hj)⟩
structure Els (h : Hp) (D : Nat → Prop) (xs : List AVal) (ls : List (List UInt8)) : Prop where
 len : xs.length = ls.length
 at_ : ∀ (j : Nat) x l, xs[j]? = some x → ls[j]? = some l → El h D x l
theorem Els.nil (h : Hp) (D : Nat → Prop) : Els h D [] [] := ⟨rfl, fun j x l hx => by simp at hx⟩
theorem Els.mono {h h' : Hp} {D D' : Nat → Prop} {xs : List AVal} {ls : List (List UInt8)} (he : Els h D xs ls) (hd : ∀ j, D j → D' j) (hk : ∀ j, D j → h' j = h j) : Els h' D' xs ls :=
 ⟨he.len, fun j x l hx hl => (he.at_ j x l hx hl).mono hd hk⟩
theorem Els.app {h : Hp} {D : Nat → Prop} {xs ys : List AVal} {ls ms : List (List UInt8)} (a : Els h D xs ls) (b : Els h D ys ms) : Els h D (xs ++ ys) (ls ++ ms) := by
 refine ⟨by rw [List.length_append, List.length_append, a.len, b.len], fun j x l hx hl => ?_⟩
 by_cases c : j < xs.length
 ·rw [List.getElem?_append_left c] at hx
  rw [List.getElem?_append_left (by rw [← a.len]; exact c)] at hl
  exact a.at_ j x l hx hl
 ·rw [List.getElem?_append_right (by omega)] at hx
  rw [List.getElem?_append_right (by rw [← a.len]; omega), ← a.len] at hl
  exact b.at_ _ x l hx hl
theorem Els.take {h : Hp} {D : Nat → Prop} {xs : List AVal} {ls : List (List UInt8)} (a : Els h D xs ls) (k : Nat) : Els h D (xs.take k) (ls.take k) := by
 refine ⟨by rw [List.length_take, List.length_take, a.len], fun j x l hx hl => ?_⟩
 rw [List.getElem?_take] at hx hl
 split at hx
 ·rw [if_pos (by assumption)] at hl; exact a.at_ j x l hx hl
 ·cases hx
theorem Els.drop {h : Hp} {D : Nat → Prop} {xs : List AVal} {ls : List (List UInt8)} (a : Els h D xs ls) (k : Nat) : Els h D (xs.drop k) (ls.drop k) := by
 refine ⟨by rw [List.length_drop, List.length_drop, a.len], fun j x l hx hl => ?_⟩
 rw [List.getElem?_drop] at hx hl
 exact a.at_ _ x l hx hl
theorem Els.one {h : Hp} {D : Nat → Prop} {x : AVal} {l : List UInt8} (he : El h D x l) : Els h D [x] [l] :=
 ⟨rfl, fun j y m hy hm => by
  cases j with
  | zero => simp at hy hm; subst hy; subst hm; exact he
  | succ j => simp at hy⟩
theorem Els.get {h : Hp} {D : Nat → Prop} {xs : List AVal} {ls : List (List UInt8)} (a : Els h D xs ls) {j : Nat} (hj : j < ls.length) : ∃ x, xs[j]? = some x ∧ El h D x ls[j] := by
 have hx : j < xs.length := by rw [a.len]; exact hj
 exact ⟨xs[j], List.getElem?_eq_getElem hx, a.at_ j _ _ (List.getElem?_eq_getElem hx) (List.getElem?_eq_getElem hj)⟩
theorem Els.cells {h : Hp} {D : Nat → Prop} {xs : List AVal} {ls : List (List UInt8)} (a : Els h D xs ls) : xs.all oneCell = true := by
 refine all_of fun j x hx => ?_
 have hj := (List.getElem?_eq_some_iff.1 hx).1
 have := a.at_ j x _ hx (List.getElem?_eq_getElem (by rw [← a.len]; exact hj))
 exact this.1.kind.2.1
theorem u53 : und env 53 = M.pure (.slice 22) := rfl
theorem s22 : sizeOf env 22 = M.pure 1 := rfl
theorem bs22 (x : AVal) (hx : x.cells = [x] ∧ oneCell x = true ∧ isJunk x = false) : buildSlice env 53 1 [(0, x)] = (newRow env 22 [x]).bind fun id => M.pure (.sl id 0 1 (some 1) 1) := by
 cases x with
 | agg l => cases hx.2.1
 | tup l => cases hx.2.1
 | junk => cases hx.2.1
 | _ => rfl
theorem f64 (v : AVal) (l : List UInt8) (h : Hp) (n : Nat) (hb : Bytes h v l) (hl : l.length ≤ 1000000) (hf : Free h n) : Wp (callI env (evalW env) 64 [v]) h n fun v' h' n' => Bytes h' v' l ∧ (∀ j, ownId v' = some j → n ≤ j ∧ j < n') ∧ Old h h' n := by
 refine wp_callI ff64 fi64 ?_
 simp only [fu64, Try.f64, Option.getD_some, List.replicate, fgr, Nat.reduceSub, hb.eqNil t22, gE]
 cases hnil : isNils v with
 | true =>
  simp only [fgr, gE]
  have := hb.nil.2 hnil
  subst this
  exact ⟨.nils, (fun j hj => by cases hj), Old.refl _ _⟩
 | false =>
  simp only [tyr, builtin, newRow, buildSlice, reps, fill, Nat.ble, gE]
  refine opv_lst_append (i := ⟨.int .u8, 1, 1, .int .u8 0⟩) (e := 5) (cnt := 0) (xs := []) (lst_new (upd_same _ _ _) rfl (fun k hk => by injection hk with hk; exact hk.symm)) ((hb.keep fun j hj => ?_).rds) t22 t22 ti5 (u8_one l) (by decide) (by show 2 * (0 + l.length) * 1 ≤ _; omega) (by omega) hf.new ?_
  ·rw [upd_ne]
   intro e
   cases hb with
   | nils => cases hj
   | isl => cases hj
   | sl id off cap c e2 l hh hs hc => injection hj with hj; subst hj; subst e; rw [hf _ (Nat.le_refl _)] at hh; cases hh
  ·intro v' h' n' hn hf' ho hid hold
   simp only [fgr, gE]
   rw [List.nil_append] at ho
   refine ⟨ho.rds.bytes (by intro e; subst e; cases ho), fun j hj => ?_, fun j hj => ?_⟩
   ·rcases hid with q | ⟨q, q2⟩
    ·rw [q] at hj; injection hj with hj; subst hj; exact ⟨Nat.le_refl _, by omega⟩
    ·rw [q] at hj; injection hj with hj; omega
   ·rw [hold j (by omega) (fun e => by injection e with e; omega), upd_ne _ _ (by omega)]
theorem f68 (v : AVal) (cnt : Nat) (xs : List AVal) (h : Hp) (n : Nat) (hv : Rds h 1 v cnt xs) (he : binOp env .eql 53 v .nils = M.pure (.bool (isNils v))) (hnl : isNils v = true → xs = []) (hx : xs.all oneCell = true) (hb : ∀ j, ownId v = some j → j < n) (hl : cnt ≤ 100000) (hf : Free h n) :
  Wp (callI env (evalW env) 68 [v]) h n fun v' h' n' => Lst h' 22 1 v' cnt xs ∧ (∀ j, ownId v' = some j → n ≤ j ∧ j < n') ∧ Old h h' n := by
 refine wp_callI ff68 fi68 ?_
 simp only [fu68, Try.f68, Option.getD_some, List.replicate, fgr, Nat.reduceSub, he, gE]
 cases hnil : isNils v with
 | true =>
  simp only [fgr, gE]
  have := hnl hnil
  subst this
  have h0 := hv.length
  have : cnt = 0 := by simpa using h0.symm
  subst this
  exact ⟨.nil, (fun j hj => by cases hj), Old.refl _ _⟩
 | false =>
  simp only [tyr, builtin, newRow, buildSlice, reps, fill, Nat.ble, gE]
  refine opv_lst_append (i := ⟨.slice 5, 1, 24, .nils⟩) (e := 22) (cnt := 0) (xs := []) (lst_new (upd_same _ _ _) rfl (fun k hk => by injection hk with hk; exact hk.symm)) (hv.keep fun j hj => upd_ne _ _ (by have := hb j hj; omega)) u53 u53 ti22 hx (by decide) (by show 2 * (0 + cnt) * 24 ≤ _; omega) (by omega) hf.new ?_
  intro v' h' n' hn hf' ho hid hold
  simp only [fgr, gE]
  rw [List.nil_append, Nat.zero_add] at ho
  refine ⟨ho, fun j hj => ?_, fun j hj => ?_⟩
  ·rcases hid with q | ⟨q, q2⟩
   ·rw [q] at hj; injection hj with hj; subst hj; exact ⟨Nat.le_refl _, by omega⟩
   ·rw [q] at hj; injection hj with hj; omega
  ·rw [hold j (by omega) (fun e => by injection e with e; omega), upd_ne _ _ (by omega)]
theorem f109 (v : AVal) (cnt : Nat) (xs : List AVal) (h : Hp) (n : Nat) (hv : Rds h 1 v cnt xs) (hx : xs.all oneCell = true) (hl : cnt ≤ 100000) (hf : Free h n) :
  Wp (callI env (evalW env) 109 [v]) h n fun v' h' n' => Lst h' 22 1 v' cnt xs ∧ (∀ j, ownId v' = some j → n ≤ j ∧ j < n') ∧ Old h h' n := by
 refine wp_callI ff109 fi109 ?_
 simp only [fu109, Try.f109, Option.getD_some, List.replicate, fgr, builtin, Nat.reduceSub, gE]
 refine opv_lst_append (i := ⟨.slice 5, 1, 24, .nils⟩) (e := 22) (cnt := 0) (xs := []) .nil hv u53 u53 ti22 hx (by decide) (by show 2 * (0 + cnt) * 24 ≤ _; omega) (by omega) hf ?_
 intro v' h' n' hn hf' ho hid hold
 simp only [fgr, gE]
 rw [List.nil_append, Nat.zero_add] at ho
 refine ⟨ho, fun j hj => ?_, fun j hj => hold j (by omega) (fun e => by cases e)⟩
 rcases hid with q | ⟨q, q2⟩
 ·rw [q] at hj; cases hj
 ·rw [q] at hj; injection hj with hj; omega
theorem f73 (v : AVal) (l : List UInt8) (h : Hp) (n : Nat) (hb : Bytes h v l) (hl : l.length ≤ 1000000) (hf : Free h n) : Wp (callI env (evalW env) 73 [v]) h n fun v' h' n' => Bytes h' v' l ∧ (∀ j, ownId v' = some j → n ≤ j ∧ j < n') ∧ Old h h' n := by
 refine wp_callI ff73 fi73 ?_
 simp only [fu73, Try.f73, Option.getD_some, List.replicate, fgr, builtin, Nat.reduceSub, gE]
 refine opv_lst_append (i := ⟨.int .u8, 1, 1, .int .u8 0⟩) (e := 5) (cnt := 0) (xs := []) .nil hb.rds t22 t22 ti5 (u8_one l) (by decide) (by show 2 * (0 + l.length) * 1 ≤ _; omega) (by omega) hf ?_
 intro v' h' n' hn hf' ho hid hold
 simp only [fgr, gE]
 rw [List.nil_append] at ho
 refine ⟨ho.rds.bytes (by intro e; subst e; cases ho), fun j hj => ?_, fun j hj => hold j (by omega) (fun e => by cases e)⟩
 rcases hid with q | ⟨q, q2⟩
 ·rw [q] at hj; cases hj
 ·rw [q] at hj; injection hj with hj; omega
theorem f66 (p o : Nat) (v : AVal) (cs : List AVal) (cnt : Nat) (xs : List AVal) (h : Hp) (n : Nat) (hr : Row h p cs) (hc : cs[o]? = some v) (hv : Rds h 1 v cnt xs) : Wp (callI env (evalW env) 66 [.ptr p o]) h n fun v' h' n' => v' = .int .i64 (cnt : Nat) ∧ h' = h ∧ n' = n := by
 refine wp_callI ff66 fi66 ?_
 simp only [fu66, Try.f66, Option.getD_some, List.replicate, tyr, fgr, moved, Nat.reduceSub, gE]
 rw [opv_rd (hr.one hc ti53 rfl)]
 simp only [fgr, builtin, hv.bLen u53, gE]
theorem f63 (p o : Nat) (s x : AVal) (cs : List AVal) (cnt k : Nat) (xs ys : List AVal) (h : Hp) (n : Nat) (hr : ∃ e, h p = some (.row (.l cs) e)) (hc : cs[o]? = some s) (hs : Lst h 22 1 s cnt xs) (hx : Rds h 1 x k ys) (hy : ys.all oneCell = true) (hp : p < n) (hps : ownId s ≠ some p) (hk : cnt + k ≤ 100000) (hf : Free h n) :
  Wp (callI env (evalW env) 63 [.ptr p o, x]) h n fun v' h' n' => v' = .tup [] ∧ ∃ s', Lst h' 22 1 s' (cnt + k) (xs ++ ys) ∧ Row h' p (splice cs o [s']) ∧ (ownId s' = ownId s ∨ ownId s' = some n ∧ n < n') ∧ (∀ j, j < n → j ≠ p → ownId s ≠ some j → h' j = h j) ∧ Free h' n' ∧ n ≤ n' := by
 obtain ⟨e, he⟩ := hr
 have ho : o < cs.length := (List.getElem?_eq_some_iff.1 hc).1
 refine wp_callI ff63 fi63 ?_
 simp only [fu63, Try.f63, Option.getD_some, List.replicate, tyr, moved, Nat.reduceAdd, Nat.reduceSub, gE]
 rw [opv_rd (Row.one ⟨e, he⟩ hc ti53 rfl)]
 simp only [builtin, gE]
 refine opv_lst_append (i := ⟨.slice 5, 1, 24, .nils⟩) (e := 22) hs hx u53 u53 ti22 hy (by decide) (by show 2 * (cnt + k) * 24 ≤ _; omega) (by omega) hf ?_
 intro s' h1 n1 hn hf1 hl hid hold
 have he1 : h1 p = some (.row (.l cs) e) := by rw [hold p hp hps]; exact he
 have hpn : ownId s' ≠ some p := fun q => by
  rcases hid with r | ⟨r, _⟩
  ·rw [r] at q; exact hps q
  ·rw [r] at q; injection q with q; omega
 simp only [tyr, moved, gE]
 rw [opv_wr (Row.write he1 ti53 (by rw [hl.rds.kind.1]; rfl) (by show o + 1 ≤ _; omega) (by rw [hl.rds.kind.1]; simp [hl.rds.kind.2.1]))]
 simp only [core1, fgr, putT, forgetL, true_and]
 rw [hl.rds.kind.1]
 refine ⟨s', hl.keep fun j hj => upd_ne _ _ (fun q => hpn (by rw [hj, q])), Row.new _ _ _ _, hid, fun j hj h1' h2' => ?_, hf1.upd (by omega), hn⟩
 rw [upd_ne _ _ h1']; exact hold j hj h2'
theorem f72 (p o k : Nat) (s : AVal) (cs : List AVal) (cnt : Nat) (xs : List AVal) (h : Hp) (n : Nat) (hr : ∃ e, h p = some (.row (.l cs) e)) (hc : cs[o]? = some s) (hs : Lst h 22 1 s cnt xs) (hx : xs.all oneCell = true) (hp : p < n) (hps : ownId s ≠ some p) (hk : k ≤ cnt) (hcn : cnt ≤ 100000) (hf : Free h n) :
  Wp (callI env (evalW env) 72 [.ptr p o, .int .i64 (k : Nat)]) h n fun v' h' n' => Lst h' 22 1 v' k (xs.drop (cnt - k)) ∧ (∀ j, ownId v' = some j → n ≤ j ∧ j < n') ∧ Row h' p (splice cs o [cutOf (cnt - k) s]) ∧ Lst h' 22 1 (cutOf (cnt - k) s) (cnt - k) (xs.take (cnt - k)) ∧ (∀ j, j < n → j ≠ p → h' j = h j) ∧ Free h' n' ∧ n ≤ n' := by
 obtain ⟨e, he⟩ := hr
 have ho : o < cs.length := (List.getElem?_eq_some_iff.1 hc).1
 have hxl := hs.rds.length
 refine wp_callI ff72 fi72 ?_
 have w1 : IntKind.i64.wrap (((cnt : Nat) : Int) - ((k : Nat) : Int)) = ((cnt - k : Nat) : Int) := by rw [w64 (by omega) (by omega)]; omega
 simp only [fu72, Try.f72, Option.getD_some, List.replicate, tyr, fgr, moved, Nat.reduceAdd, Nat.reduceSub, gE]
 rw [opv_rd (Row.one ⟨e, he⟩ hc ti53 rfl)]
 simp only [tyr, fgr, builtin, bor, wrapI, moved, hs.rds.bLen u53, w1, gE]
 rw [opv_rd (Row.one ⟨e, he⟩ hc ti53 rfl)]
 simp only [opt, gE]
 rw [opv_rd (hs.rds.tail_rd u53 s22 rfl (by omega))]
 simp only [hkr, gE]
 have hsub := hs.rds.sub (lo := cnt - k) (hi := cnt) (by omega) (Nat.le_refl _)
 have e1 : cnt - (cnt - k) = k := by omega
 rw [e1, Nat.mul_one, Nat.mul_one, List.take_of_length_le (by rw [List.length_drop]; omega)] at hsub
 have hsx : (xs.drop (cnt - k)).all oneCell = true := by
  rw [List.all_eq_true] at hx ⊢
  exact fun x hxx => hx x (List.mem_of_mem_drop hxx)
 have hnl : isNils (subOf (cnt - k) cnt s) = isNils s := by cases hs <;> rfl
 have heq : binOp env .eql 53 (subOf (cnt - k) cnt s) .nils = M.pure (.bool (isNils (subOf (cnt - k) cnt s))) := by
  cases hs with
  | nil => exact (Lst.nil (h := h) (e := 22) (sz := 1)).eqNil u53 |>.1
  | sl id cnt cap cells xs hh hl hc hx =>
   show binOther env .eql 53 (.sl _ _ _ _ _) .nils = _
   unfold binOther
   simp only
   rw [sl_nil (nilSl2 _ _ _ _ _) u53]; rfl
 refine opv_callf hf (f68 _ k _ h n hsub heq (fun q => ?_) hsx (fun j hj => ?_) (by omega) hf) fun v2 h2 n2 hn2 hf2 ⟨hl2, hid2, hold2⟩ => ?_
 ·rw [hnl] at q
  have := (hs.eqNil (E := env) u53).2 q
  rw [this.2.2, List.drop_nil]
 ·rw [sub_id] at hj; exact hs.live hf hj
 have he2 : h2 p = some (.row (.l cs) e) := by rw [hold2 p hp]; exact he
 have hs2 : Lst h2 22 1 s cnt xs := hs.keep fun j hj => hold2 j (hs.live hf hj)
 have hcut := hs2.cut (a := cnt - k) (by omega)
 rw [Nat.mul_one] at hcut
 simp only [tyr, fgr, moved, gE]
 rw [opv_rd (Row.one ⟨e, he2⟩ hc ti53 rfl)]
 simp only [opt, gE]
 rw [opv_rd (hs2.cut_rd u53 s22 rfl (by omega))]
 simp only [tyr, moved, gE]
 rw [opv_wr (Row.write he2 ti53 (by rw [hcut.rds.kind.1]; rfl) (by show o + 1 ≤ _; omega) (by rw [hcut.rds.kind.1]; simp [hcut.rds.kind.2.1]))]
 simp only [fgr, gE]
 rw [hcut.rds.kind.1]
 refine ⟨hl2.keep fun j hj => upd_ne _ _ (fun q => by have := (hid2 j hj).1; omega), hid2, Row.new _ _ _ _, hcut.keep fun j hj => upd_ne _ _ (fun q => ?_), fun j hj h1' => ?_, hf2.upd (by omega), hn2⟩
 ·rw [cut_id] at hj; exact hps (by rw [hj, q])
 ·rw [upd_ne _ _ h1']; exact hold2 j hj
noncomputable def L71 (tm : List AVal) : ALoop := { state := .ready, pending := none, fn := 71, tmps := tm, params := [10, 11], assign := ra71_0, body := rb71_0 }
noncomputable def L107 (tm : List AVal) : ALoop := { state := .ready, pending := none, fn := 107, tmps := tm, params := [10, 11], assign := ra107_0, body := rb107_0 }
structure Inv (h : Hp) (n p o : Nat) (k cnt : Nat) (v : AVal) (cs xs : List AVal) (r : AVal) (la lb : ALoop) : Prop where
 ik : h n = some (.row (.l [.int .i64 (k : Nat)]) 3)
 ir : h (n + 1) = some (.row (.l [r]) 22)
 ip : h (n + 1 + 1) = some (.row (.l [.ptr p o]) 113)
 ia : h (n + 1 + 1 + 1) = some (.loop la)
 iy : h (n + 1 + 1 + 1 + 1) = some (.row (.l [.fn (.yield (n + 1 + 1 + 1)) [] []]) 126)
 il : h (n + 1 + 1 + 1 + 1 + 1) = some (.row (.l [v]) 53)
 ib : h (n + 1 + 1 + 1 + 1 + 1 + 1) = some (.loop lb)
 is_ : Row h p cs
 ic : cs[o]? = some v
 iv : Rds h 1 v cnt xs
 hp : p < n
 hv : ∀ j, ownId v = some j → j < n
 nx : ∀ j, n + 1 + 1 + 1 + 1 + 1 + 1 + 1 ≤ j → h j = none
theorem Inv.upd {h : Hp} {n p o k cnt : Nat} {v r : AVal} {cs xs : List AVal} {la lb : ALoop} (hi : Inv h n p o k cnt v cs xs r la lb) {i : Nat} {b : Option Blk} {r' : AVal} {la' lb' : ALoop} (h1 : n < i) (h2 : i ≠ n + 1 + 1) (h3 : i ≠ n + 1 + 1 + 1 + 1) (h4 : i ≠ n + 1 + 1 + 1 + 1 + 1) (h5 : i < n + 1 + 1 + 1 + 1 + 1 + 1 + 1)
  (e1 : if i = n + 1 then b = some (.row (.l [r']) 22) else r' = r) (e2 : if i = n + 1 + 1 + 1 then b = some (.loop la') else la' = la) (e3 : if i = n + 1 + 1 + 1 + 1 + 1 + 1 then b = some (.loop lb') else lb' = lb) :
  Inv (Go.Am.upd h i b) n p o k cnt v cs xs r' la' lb' where
 ik := by rw [upd_ne _ _ (by omega)]; exact hi.ik
 ir := by
  split at e1
  ·rename_i q; subst q; rw [upd_same]; exact e1
  ·rw [upd_ne _ _ (by omega), e1]; exact hi.ir
 ip := by rw [upd_ne _ _ (by omega)]; exact hi.ip
 ia := by
  split at e2
  ·rename_i q; subst q; rw [upd_same]; exact e2
  ·rw [upd_ne _ _ (by omega), e2]; exact hi.ia
 iy := by rw [upd_ne _ _ (by omega)]; exact hi.iy
 il := by rw [upd_ne _ _ (by omega)]; exact hi.il
 ib := by
  split at e3
  ·rename_i q; subst q; rw [upd_same]; exact e3
  ·rw [upd_ne _ _ (by omega), e3]; exact hi.ib
 is_ := hi.is_.upd (by have := hi.hp; omega)
 ic := hi.ic
 iv := hi.iv.keep fun j hj => upd_ne _ _ (by have := hi.hv j hj; omega)
 hp := hi.hp
 hv := hi.hv
 nx := fun j hj => by rw [upd_ne _ _ (by omega)]; exact hi.nx j hj
theorem Inv.setA {h : Hp} {n p o k cnt : Nat} {v r : AVal} {cs xs : List AVal} {la lb : ALoop} (hi : Inv h n p o k cnt v cs xs r la lb) (l : ALoop) : Inv (Go.Am.upd h (n + 1 + 1 + 1) (some (.loop l))) n p o k cnt v cs xs r l lb :=
 hi.upd (by omega) (by omega) (by omega) (by omega) (by omega) (by rw [if_neg (by omega)]) (by rw [if_pos rfl]) (by rw [if_neg (by omega)])
theorem Inv.setB {h : Hp} {n p o k cnt : Nat} {v r : AVal} {cs xs : List AVal} {la lb : ALoop} (hi : Inv h n p o k cnt v cs xs r la lb) (l : ALoop) : Inv (Go.Am.upd h (n + 1 + 1 + 1 + 1 + 1 + 1) (some (.loop l))) n p o k cnt v cs xs r la l :=
 hi.upd (by omega) (by omega) (by omega) (by omega) (by omega) (by rw [if_neg (by omega)]) (by rw [if_neg (by omega)]) (by rw [if_pos rfl])
theorem Inv.setR {h : Hp} {n p o k cnt : Nat} {v r : AVal} {cs xs : List AVal} {la lb : ALoop} (hi : Inv h n p o k cnt v cs xs r la lb) (x : AVal) : Inv (Go.Am.upd h (n + 1) (some (.row (.l [x]) 22))) n p o k cnt v cs xs x la lb :=
 hi.upd (by omega) (by omega) (by omega) (by omega) (by omega) (by rw [if_pos rfl]) (by rw [if_neg (by omega)]) (by rw [if_neg (by omega)])
set_option maxHeartbeats 8000000 in
theorem loop110 (Q : Post0) (ks : List Kf) (n p o k cnt : Nat) (v : AVal) (cs xs : List AVal) (x1 x4 x6 x7 x9 x10 x11 x14 : AVal) (y3 y4 y9 y10 y11 y23 : AVal) (h0 : Hp) (x : AVal) (hk : k < cnt) (hcnt : cnt ≤ 100000) (hx : xs[cnt - 1 - k]? = some x) (hxk : x.cells = [x] ∧ oneCell x = true ∧ isJunk x = false)
  (hq : ∀ (h : Hp) tm, Inv h n p o k cnt v cs xs x { L71 (.ptr p o :: x1 :: AVal.junk :: .ptr n 0 :: x4 :: .ptr (n + 1) 0 :: x6 :: x7 :: AVal.junk :: x9 :: x10 :: x11 :: AVal.junk :: AVal.junk :: x14 :: AVal.junk :: AVal.junk :: []) with state := .done, pending := some (.exit 0) } { L107 (.fn (.yield (n + 1 + 1 + 1)) [] [] :: .ptr (n + 1 + 1) 0 :: .ptr (n + 1 + 1 + 1 + 1) 0 :: y3 :: y4 :: AVal.junk :: AVal.junk :: AVal.junk :: AVal.junk :: y9 :: y10 :: y11 :: AVal.junk :: AVal.junk :: AVal.junk :: AVal.junk :: AVal.junk :: AVal.junk :: AVal.junk :: AVal.junk :: AVal.junk :: AVal.junk :: AVal.junk :: y23 :: []) with state := .done, pending := some .ret } → Old h0 h n → Kont env 110 none Q ks .ret tm h (n + 1 + 1 + 1 + 1 + 1 + 1 + 1)) :
  ∀ (m i : Nat) (h : Hp) (z8 z18 : AVal), i = cnt - 1 - k + m → i < cnt → Inv h n p o k cnt v cs xs .nils (L71 (.ptr p o :: x1 :: AVal.junk :: .ptr n 0 :: x4 :: .ptr (n + 1) 0 :: x6 :: x7 :: AVal.junk :: x9 :: x10 :: x11 :: AVal.junk :: AVal.junk :: x14 :: AVal.junk :: AVal.junk :: [])) (L107 (.fn (.yield (n + 1 + 1 + 1)) [] [] :: .ptr (n + 1 + 1) 0 :: .ptr (n + 1 + 1 + 1 + 1) 0 :: y3 :: y4 :: AVal.junk :: AVal.junk :: AVal.junk :: AVal.junk :: y9 :: y10 :: y11 :: AVal.junk :: AVal.junk :: AVal.junk :: AVal.junk :: AVal.junk :: AVal.junk :: AVal.junk :: AVal.junk :: AVal.junk :: AVal.junk :: AVal.junk :: y23 :: [])) → Old h0 h n →
  Run env 110 none Q (.loop lp110_0) ks (.fn (.yield (n + 1 + 1 + 1 + 1 + 1 + 1)) [] [] :: .ptr (n + 1 + 1 + 1 + 1 + 1) 0 :: AVal.junk :: .int .i64 (i : Nat) :: AVal.junk :: AVal.junk :: AVal.junk :: AVal.junk :: z8 :: AVal.junk :: AVal.junk :: AVal.junk :: AVal.junk :: AVal.junk :: AVal.junk :: AVal.junk :: AVal.junk :: AVal.junk :: z18 :: []) h (n + 1 + 1 + 1 + 1 + 1 + 1 + 1) := by
 have main : ∀ (i : Nat) (h : Hp) (z8 z18 : AVal) (xi : AVal), i < cnt → xs[i]? = some xi → Inv h n p o k cnt v cs xs .nils (L71 (.ptr p o :: x1 :: AVal.junk :: .ptr n 0 :: x4 :: .ptr (n + 1) 0 :: x6 :: x7 :: AVal.junk :: x9 :: x10 :: x11 :: AVal.junk :: AVal.junk :: x14 :: AVal.junk :: AVal.junk :: [])) (L107 (.fn (.yield (n + 1 + 1 + 1)) [] [] :: .ptr (n + 1 + 1) 0 :: .ptr (n + 1 + 1 + 1 + 1) 0 :: y3 :: y4 :: AVal.junk :: AVal.junk :: AVal.junk :: AVal.junk :: y9 :: y10 :: y11 :: AVal.junk :: AVal.junk :: AVal.junk :: AVal.junk :: AVal.junk :: AVal.junk :: AVal.junk :: AVal.junk :: AVal.junk :: AVal.junk :: AVal.junk :: y23 :: [])) → Old h0 h n →
  (i = cnt - 1 - k ∨ 1 ≤ i ∧ ∀ (h : Hp) (z8 z18 : AVal), Inv h n p o k cnt v cs xs .nils (L71 (.ptr p o :: x1 :: AVal.junk :: .ptr n 0 :: x4 :: .ptr (n + 1) 0 :: x6 :: x7 :: AVal.junk :: x9 :: x10 :: x11 :: AVal.junk :: AVal.junk :: x14 :: AVal.junk :: AVal.junk :: [])) (L107 (.fn (.yield (n + 1 + 1 + 1)) [] [] :: .ptr (n + 1 + 1) 0 :: .ptr (n + 1 + 1 + 1 + 1) 0 :: y3 :: y4 :: AVal.junk :: AVal.junk :: AVal.junk :: AVal.junk :: y9 :: y10 :: y11 :: AVal.junk :: AVal.junk :: AVal.junk :: AVal.junk :: AVal.junk :: AVal.junk :: AVal.junk :: AVal.junk :: AVal.junk :: AVal.junk :: AVal.junk :: y23 :: [])) → Old h0 h n →
   Run env 110 none Q (.loop lp110_0) ks (.fn (.yield (n + 1 + 1 + 1 + 1 + 1 + 1)) [] [] :: .ptr (n + 1 + 1 + 1 + 1 + 1) 0 :: AVal.junk :: .int .i64 ((i - 1 : Nat) : Int) :: AVal.junk :: AVal.junk :: AVal.junk :: AVal.junk :: z8 :: AVal.junk :: AVal.junk :: AVal.junk :: AVal.junk :: AVal.junk :: AVal.junk :: AVal.junk :: AVal.junk :: AVal.junk :: z18 :: []) h (n + 1 + 1 + 1 + 1 + 1 + 1 + 1)) →
  Run env 110 none Q (.loop lp110_0) ks (.fn (.yield (n + 1 + 1 + 1 + 1 + 1 + 1)) [] [] :: .ptr (n + 1 + 1 + 1 + 1 + 1) 0 :: AVal.junk :: .int .i64 (i : Nat) :: AVal.junk :: AVal.junk :: AVal.junk :: AVal.junk :: z8 :: AVal.junk :: AVal.junk :: AVal.junk :: AVal.junk :: AVal.junk :: AVal.junk :: AVal.junk :: AVal.junk :: AVal.junk :: z18 :: []) h (n + 1 + 1 + 1 + 1 + 1 + 1 + 1) := by
  intro i h z8 z18 xi hic hxi iv old hgo
  have c1 : (0 : Int) ≤ ((i : Nat) : Int) := by omega
  rw [run_loop]
  simp only [lp110_0, loopsOf, Try.f110, Option.getD_some, fgr, bor, ge_iff_le, List.getD_cons_zero, c1, gE]
  rw [opv_rd (Row.one ⟨_, iv.il⟩ rfl ti53 rfl)]
  simp only [gE]
  rw [opv_rd (iv.iv.idx (j := i) u53 s22 rfl hic)]
  simp only [Nat.mul_one, gE]
  rw [opv_rd (iv.iv.load (k := i) ti22 rfl hxi)]
  simp only [gE]
  refine opv_yield iv.ib rfl rfl ?_
  simp only [ra107_0, List.getD_cons_zero, putAll, List.zip_cons_cons, List.zip_nil_left, L107, rangesOf, Try.f107, Option.getD_some, fgr, unOp, gE]
  refine ⟨_, iv.ib, rfl, ?_⟩
  have iv := iv.setB { L107 (.fn (.yield (n + 1 + 1 + 1)) [] [] :: .ptr (n + 1 + 1) 0 :: .ptr (n + 1 + 1 + 1 + 1) 0 :: y3 :: y4 :: AVal.junk :: AVal.junk :: AVal.junk :: AVal.junk :: y9 :: y10 :: y11 :: AVal.junk :: AVal.junk :: AVal.junk :: AVal.junk :: AVal.junk :: AVal.junk :: AVal.junk :: AVal.junk :: AVal.junk :: AVal.junk :: AVal.junk :: y23 :: []) with state := .busy }
  have old := old.upd (i := n + 1 + 1 + 1 + 1 + 1 + 1) (b := some (.loop { L107 (.fn (.yield (n + 1 + 1 + 1)) [] [] :: .ptr (n + 1 + 1) 0 :: .ptr (n + 1 + 1 + 1 + 1) 0 :: y3 :: y4 :: AVal.junk :: AVal.junk :: AVal.junk :: AVal.junk :: y9 :: y10 :: y11 :: AVal.junk :: AVal.junk :: AVal.junk :: AVal.junk :: AVal.junk :: AVal.junk :: AVal.junk :: AVal.junk :: AVal.junk :: AVal.junk :: AVal.junk :: y23 :: []) with state := .busy })) (by omega)
  simp only [L107] at iv old ⊢
  generalize upd h (n + 1 + 1 + 1 + 1 + 1 + 1) _ = h1 at iv old ⊢
  simp only [rb107_0, List.getD_cons_zero, rangesOf, Try.f107, Option.getD_some, core1, fgr, List.nil_append, List.append_nil]
  refine run_draw ⟨rfl, ?_⟩
  simp only [gE]
  rw [fev_rd (Row.one ⟨_, iv.iy⟩ rfl ti126 rfl)]
  simp only [gE]
  rw [fev_rd (Row.one ⟨_, iv.ip⟩ rfl ti113 rfl)]
  simp only [tyr, moved, Nat.reduceAdd, gE]
  rw [fev_rd (iv.is_.one iv.ic ti53 rfl)]
  have w1 : IntKind.i64.wrap (((cnt : Nat) : Int) - 1) = ((cnt - 1 : Nat) : Int) := by rw [w64 (by omega) (by omega)]; omega
  have w2 : IntKind.i64.wrap (((cnt - 1 : Nat) : Int) - ((i : Nat) : Int)) = ((cnt - 1 - i : Nat) : Int) := by rw [w64 (by omega) (by omega)]; omega
  simp only [builtin, bor, wrapI, Nat.reduceAdd, iv.iv.bLen u53, w1, w2, gE]
  refine fev_any (fun j hj => iv.nx j hj) (Q1 := fun v' h' n' => n' = n + 1 + 1 + 1 + 1 + 1 + 1 + 1 ∧ Old h0 h' n ∧ ((i = cnt - 1 - k ∧ v' = .blit false ∧ Inv h' n p o k cnt v cs xs xi { L71 (.ptr p o :: x1 :: AVal.junk :: .ptr n 0 :: x4 :: .ptr (n + 1) 0 :: x6 :: x7 :: AVal.junk :: x9 :: x10 :: x11 :: AVal.junk :: AVal.junk :: x14 :: AVal.junk :: AVal.junk :: []) with state := .done, pending := some (.exit 0) } { L107 (.fn (.yield (n + 1 + 1 + 1)) [] [] :: .ptr (n + 1 + 1) 0 :: .ptr (n + 1 + 1 + 1 + 1) 0 :: y3 :: y4 :: AVal.junk :: AVal.junk :: AVal.junk :: AVal.junk :: y9 :: y10 :: y11 :: AVal.junk :: AVal.junk :: AVal.junk :: AVal.junk :: AVal.junk :: AVal.junk :: AVal.junk :: AVal.junk :: AVal.junk :: AVal.junk :: AVal.junk :: y23 :: []) with state := .busy }) ∨
   (i ≠ cnt - 1 - k ∧ v' = .blit true ∧ Inv h' n p o k cnt v cs xs .nils (L71 (.ptr p o :: x1 :: AVal.junk :: .ptr n 0 :: x4 :: .ptr (n + 1) 0 :: x6 :: x7 :: AVal.junk :: x9 :: x10 :: x11 :: AVal.junk :: AVal.junk :: x14 :: AVal.junk :: AVal.junk :: [])) { L107 (.fn (.yield (n + 1 + 1 + 1)) [] [] :: .ptr (n + 1 + 1) 0 :: .ptr (n + 1 + 1 + 1 + 1) 0 :: y3 :: y4 :: AVal.junk :: AVal.junk :: AVal.junk :: AVal.junk :: y9 :: y10 :: y11 :: AVal.junk :: AVal.junk :: AVal.junk :: AVal.junk :: AVal.junk :: AVal.junk :: AVal.junk :: AVal.junk :: AVal.junk :: AVal.junk :: AVal.junk :: y23 :: []) with state := .busy }))) ?_ fun v7 h7 n7 r7 w7 hn7 f7 hh7 => ?_
  ·refine wp_yield iv.ia rfl rfl ?_
   simp only [ra71_0, List.getD_cons_zero, putAll, List.zip_cons_cons, List.zip_nil_left, L71, rangesOf, Try.f71, Option.getD_some, fgr, gE]
   refine ⟨_, iv.ia, rfl, ?_⟩
   have iv := iv.setA { L71 (.ptr p o :: x1 :: AVal.junk :: .ptr n 0 :: x4 :: .ptr (n + 1) 0 :: x6 :: x7 :: AVal.junk :: x9 :: x10 :: x11 :: AVal.junk :: AVal.junk :: x14 :: AVal.junk :: AVal.junk :: []) with state := .busy }
   have old := old.upd (i := n + 1 + 1 + 1) (b := some (.loop { L71 (.ptr p o :: x1 :: AVal.junk :: .ptr n 0 :: x4 :: .ptr (n + 1) 0 :: x6 :: x7 :: AVal.junk :: x9 :: x10 :: x11 :: AVal.junk :: AVal.junk :: x14 :: AVal.junk :: AVal.junk :: []) with state := .busy })) (by omega)
   simp only [L71] at iv old ⊢
   generalize upd h1 (n + 1 + 1 + 1) _ = h2 at iv old ⊢
   simp only [rb71_0, List.getD_cons_zero, rangesOf, Try.f71, Option.getD_some, fgr, gE]
   rw [opv_rd (Row.one ⟨_, iv.ik⟩ rfl ti3 rfl)]
   by_cases hik : i = cnt - 1 - k
   ·have c2 : ((cnt - 1 - i : Nat) : Int) = ((k : Nat) : Int) := by omega
    have hxx : xi = x := by rw [hik, hx] at hxi; injection hxi with q; exact q.symm
    subst hxx
    simp only [fgr, bor, c2, gE]
    rw [opv_wr (Row.write iv.ir ti22 (by rw [hxk.1]; rfl) (by show 0 + 1 ≤ 1; omega) (by rw [hxk.1]; simp [hxk.2.1]))]
    rw [show splice [AVal.nils] 0 xi.cells = [xi] by rw [hxk.1]; rfl]
    have iv := iv.setR xi
    have old := old.upd (i := n + 1) (b := some (.row (.l [xi]) 22)) (by omega)
    generalize upd h2 (n + 1) _ = h3 at iv old ⊢
    simp only [core1, cont_block_any, fgr, putT, forgetL, true_and, normB, jumpOf]
    exact ⟨_, iv.ia, old.upd (by omega), .inl ⟨hik, iv.setA _⟩⟩
   ·have c2 : ¬ ((cnt - 1 - i : Nat) : Int) = ((k : Nat) : Int) := by omega
    simp only [fgr, bor, c2, normB, jumpOf, gE]
    exact ⟨_, iv.ia, old.upd (by omega), .inr ⟨hik, iv.setA _⟩⟩
  obtain ⟨rfl, old, hh7 | hh7⟩ := hh7
  ·obtain ⟨hik, rfl, iv⟩ := hh7
   simp only [fgr, unOp, Nat.reduceAdd, gE]
   refine ⟨(by (try simp (disch := first | assumption | omega) only [fine, gF]); repeat' (first | rfl | exact (Bool.or_eq_true _ _).mpr (.inr rfl) | refine (Bool.and_eq_true _ _).mpr ⟨?_, ?_⟩)), ?_⟩
   simp only [core1, Bool.not_false, normB, jumpOf]
   refine ⟨_, iv.ib, ?_⟩
   simp only []
   have hxx : xi = x := by rw [hik, hx] at hxi; injection hxi with q; exact q.symm
   subst hxx
   exact hq _ _ (iv.setB _) (old.upd (by omega))
  ·obtain ⟨hik, rfl, iv⟩ := hh7
   simp only [fgr, unOp, Nat.reduceAdd, gE]
   refine ⟨(by (try simp (disch := first | assumption | omega) only [fine, gF]); repeat' (first | rfl | exact (Bool.or_eq_true _ _).mpr (.inr rfl) | refine (Bool.and_eq_true _ _).mpr ⟨?_, ?_⟩)), ?_⟩
   simp only [fgr, bor, wrapI, normB, jumpOf, gE]
   refine ⟨_, iv.ib, ?_⟩
   rcases hgo with q | ⟨h1i, hgo⟩
   ·exact absurd q hik
   have hw : IntKind.i64.wrap (((i : Nat) : Int) - 1) = ((i - 1 : Nat) : Int) := by rw [w64 (by omega) (by omega)]; omega
   simp only [hw]
   exact hgo _ _ _ (iv.setB _) (old.upd (by omega))
 intro m
 induction m with
 | zero =>
  intro i h z8 z18 hi hic iv old
  exact main i h z8 z18 x hic (by rw [hi]; exact hx) iv old (.inl hi)
 | succ m ih =>
  intro i h z8 z18 hi hic iv old
  have hxl := iv.iv.length
  refine main i h z8 z18 (xs[i]'(by omega)) hic (List.getElem?_eq_getElem _) iv old (.inr ⟨by omega, fun h2 y8 y18 iv2 old2 => ?_⟩)
  have := ih (i - 1) h2 y8 y18 (by omega) (by omega) iv2 old2
  exact this
theorem f108 (v : AVal) (hv : v.cells = [v] ∧ oneCell v = true ∧ isJunk v = false) (h : Hp) (n : Nat) : Wp (callI env (evalW env) 108 [v]) h n fun v' h' n' => v' = .fn (.func 110) [] [.ptr n 0] ∧ h' = upd h n (some (.row (.l [v]) 53)) ∧ n' = n + 1 := by
 refine wp_callI ff108 fi108 ?_
 simp only [fu108, Try.f108, Option.getD_some, List.replicate, tyr, fgr, alloc, newRow, Nat.reduceSub, hv.1, hv.2.2, gE]
theorem f103 (p o : Nat) (h : Hp) (n : Nat) : Wp (callI env (evalW env) 103 [.ptr p o]) h n fun v' h' n' => v' = .fn (.func 107) [] [.ptr n 0] ∧ h' = upd h n (some (.row (.l [.ptr p o]) 113)) ∧ n' = n + 1 := by
 refine wp_callI ff103 fi103 ?_
 simp only [fu103, Try.f103, Option.getD_some, List.replicate, tyr, fgr, cel, alloc, newRow, Nat.reduceSub, gE]
set_option maxHeartbeats 8000000 in
theorem f71 (p o k cnt : Nat) (v x : AVal) (cs xs : List AVal) (h : Hp) (n : Nat) (hr : Row h p cs) (hc : cs[o]? = some v) (hv : Rds h 1 v cnt xs) (hk : k < cnt) (hcnt : cnt ≤ 100000) (hx : xs[cnt - 1 - k]? = some x) (hxk : x.cells = [x] ∧ oneCell x = true ∧ isJunk x = false) (hp : p < n) (hvn : ∀ j, ownId v = some j → j < n) (hf : Free h n) :
  Wp (callI env (evalW env) 71 [.ptr p o, .int .i64 (k : Nat)]) h n fun v' h' n' => v' = x ∧ Old h h' n := by
 refine wp_callI ff71 fi71 ?_
 simp only [fu71, Try.f71, Option.getD_some, List.replicate, tyr, fgr, hkr, cel, alloc, doAlloc, newRow, Nat.reduceAdd, Nat.reduceSub, gE]
 refine opv_same (f103 p o _ _) ?_
 simp only [core1, fgr, putT, put, forgetL]
 refine run_range (g := 107) (first := []) (cap := [.ptr (n + 1 + 1) 0]) rfl rfl ?_
 refine wp_callI ff107 fi107 ?_
 simp only [fu107, Try.f107, Option.getD_some, List.replicate, tyr, fgr, cel, alloc, newRow, Nat.reduceAdd, Nat.reduceSub, gE]
 generalize hh5 : upd (upd (upd (upd (upd h n _) (n + 1) _) (n + 1 + 1) _) (n + 1 + 1 + 1) _) (n + 1 + 1 + 1 + 1) _ = h5
 have g0 : h5 n = some (.row (.l [.int .i64 (k : Nat)]) 3) := by rw [← hh5]; simp (disch := first | omega | exact NB _ rfl _) only [upd_same, upd_ne]
 have g1 : h5 (n + 1) = some (.row (.l [.nils]) 22) := by rw [← hh5]; simp (disch := first | omega | exact NB _ rfl _) only [upd_same, upd_ne]
 have g2 : h5 (n + 1 + 1) = some (.row (.l [.ptr p o]) 113) := by rw [← hh5]; simp (disch := first | omega | exact NB _ rfl _) only [upd_same, upd_ne]
 have g3 : h5 (n + 1 + 1 + 1) = some (.loop (L71 [AVal.ptr p o, AVal.int IntKind.i64 ↑k, AVal.junk, AVal.ptr n 0, AVal.nils, AVal.ptr (n + 1) 0, undef, undef, AVal.junk, AVal.fn (Fn.func 107) [] [AVal.ptr (n + 1 + 1) 0], undef, undef, AVal.junk, AVal.junk, undef, AVal.junk, AVal.junk])) := by rw [← hh5, upd_ne _ _ (by omega), upd_same]; rfl
 have g4 : h5 (n + 1 + 1 + 1 + 1) = some (.row (.l [.fn (.yield (n + 1 + 1 + 1)) [] []]) 126) := by rw [← hh5]; simp (disch := first | omega | exact NB _ rfl _) only [upd_same]
 have old5 : Old h h5 n := fun j hj => by rw [← hh5, upd_ne _ _ (by omega), upd_ne _ _ (by omega), upd_ne _ _ (by omega), upd_ne _ _ (by omega), upd_ne _ _ (by omega)]
 have nx5 : ∀ j, n + 1 + 1 + 1 + 1 + 1 ≤ j → h5 j = none := fun j hj => by rw [← hh5, upd_ne _ _ (by omega), upd_ne _ _ (by omega), upd_ne _ _ (by omega), upd_ne _ _ (by omega), upd_ne _ _ (by omega)]; exact hf j (by omega)
 clear hh5
 rw [opv_rd (Row.one ⟨_, g2⟩ rfl ti113 rfl)]
 simp only [tyr, moved, gE]
 rw [opv_rd ((hr.keep (old5 p hp)).one hc ti53 rfl)]
 simp only [hkr, gE]
 refine opv_same (f108 v hv.kind _ _) ?_
 simp only [core1, fgr, putT, put, forgetL]
 refine run_range (g := 110) (first := []) (cap := [.ptr (n + 1 + 1 + 1 + 1 + 1) 0]) rfl rfl ?_
 refine wp_callI ff110 fi110 ?_
 simp only [fu110, Try.f110, Option.getD_some, List.replicate, Nat.reduceAdd, Nat.reduceSub, gE]
 generalize hh6 : upd (upd h5 (n + 1 + 1 + 1 + 1 + 1) _) (n + 1 + 1 + 1 + 1 + 1 + 1) _ = h6
 have iv : Inv h6 n p o k cnt v cs xs .nils (L71 [AVal.ptr p o, AVal.int IntKind.i64 ↑k, AVal.junk, AVal.ptr n 0, AVal.nils, AVal.ptr (n + 1) 0, undef, undef, AVal.junk, AVal.fn (Fn.func 107) [] [AVal.ptr (n + 1 + 1) 0], undef, undef, AVal.junk, AVal.junk, undef, AVal.junk, AVal.junk]) (L107 [AVal.fn (Fn.yield (n + 1 + 1 + 1)) [] [], AVal.ptr (n + 1 + 1) 0, AVal.ptr (n + 1 + 1 + 1 + 1) 0, undef, undef, AVal.junk, AVal.junk, AVal.junk, AVal.junk, AVal.fn (Fn.func 110) [] [AVal.ptr (n + 1 + 1 + 1 + 1 + 1) 0], undef, undef, AVal.junk, AVal.junk, AVal.junk, AVal.junk, AVal.junk, AVal.junk, AVal.junk, AVal.junk, AVal.junk, AVal.junk, AVal.junk, undef]) := by
  refine ⟨?_, ?_, ?_, ?_, ?_, ?_, ?_, ?_, hc, ?_, hp, hvn, ?_⟩
  ·rw [← hh6, upd_ne _ _ (by omega), upd_ne _ _ (by omega)]; exact g0
  ·rw [← hh6, upd_ne _ _ (by omega), upd_ne _ _ (by omega)]; exact g1
  ·rw [← hh6, upd_ne _ _ (by omega), upd_ne _ _ (by omega)]; exact g2
  ·rw [← hh6, upd_ne _ _ (by omega), upd_ne _ _ (by omega)]; exact g3
  ·rw [← hh6, upd_ne _ _ (by omega), upd_ne _ _ (by omega)]; exact g4
  ·rw [← hh6, upd_ne _ _ (by omega), upd_same]
  ·rw [← hh6, upd_same]; rfl
  ·exact hr.keep (by rw [← hh6, upd_ne _ _ (by omega), upd_ne _ _ (by omega)]; exact old5 p hp)
  ·exact hv.keep fun j hj => by rw [← hh6, upd_ne _ _ (by have := hvn j hj; omega), upd_ne _ _ (by have := hvn j hj; omega)]; exact old5 j (hvn j hj)
  ·intro j hj; rw [← hh6, upd_ne _ _ (by omega), upd_ne _ _ (by omega)]; exact nx5 j (by omega)
 have old6 : Old h h6 n := fun j hj => by rw [← hh6, upd_ne _ _ (by omega), upd_ne _ _ (by omega)]; exact old5 j hj
 clear hh6
 rw [opv_rd (Row.one ⟨_, iv.il⟩ rfl ti53 rfl)]
 have w1 : IntKind.i64.wrap (((cnt : Nat) : Int) - 1) = ((cnt - 1 : Nat) : Int) := by rw [w64 (by omega) (by omega)]; omega
 simp only [fgr, builtin, bor, wrapI, hv.bLen u53, w1, gE]
 refine loop110 _ _ n p o k cnt v cs xs _ _ _ _ _ _ _ _ _ _ _ _ _ _ h x hk hcnt hx hxk ?_ k (cnt - 1) h6 _ _ (by omega) (by omega) iv old6
 intro h7 tm7 iv7 old7
 simp only [core1, true_and]
 refine ⟨_, iv7.ib, (fun q => by cases q), .ret, rfl, ?_⟩
 have iv8 := iv7.setB { L107 [AVal.fn (Fn.yield (n + 1 + 1 + 1)) [] [], AVal.ptr (n + 1 + 1) 0, AVal.ptr (n + 1 + 1 + 1 + 1) 0, undef, undef, AVal.junk, AVal.junk, AVal.junk, AVal.junk, AVal.fn (Fn.func 110) [] [AVal.ptr (n + 1 + 1 + 1 + 1 + 1) 0], undef, undef, AVal.junk, AVal.junk, AVal.junk, AVal.junk, AVal.junk, AVal.junk, AVal.junk, AVal.junk, AVal.junk, AVal.junk, AVal.junk, undef] with state := .exhausted, pending := some .ret }
 simp only [core1, true_and]
 refine ⟨_, iv8.ia, (fun q => by cases q), .exit 0, rfl, ?_⟩
 simp only [gE]
 rw [opv_rd (Row.one (id := n + 1) ⟨_, (iv8.setA _).ir⟩ rfl ti22 rfl)]
 simp only [fgr, gE]
 exact (old7.upd (by omega)).upd (by omega)
structure StkV (h : Hp) (n : Nat) (D : Nat → Prop) (p : Nat) (vl vo : AVal) (xl xo : List AVal) (ls os : List (List UInt8)) : Prop where
 row : ∃ e, h p = some (.row (.l [vl, vo]) e)
 l : Lst h 22 1 vl ls.length xl
 le : Els h D xl ls
 o : Lst h 22 1 vo os.length xo
 oe : Els h D xo os
 pn : p < n
 dn : ∀ j, D j → j < n
 pd : ¬ D p
 lp : ∀ j, ownId vl = some j → j ≠ p ∧ ¬ D j
 op : ∀ j, ownId vo = some j → j ≠ p ∧ ¬ D j ∧ ownId vl ≠ some j
def Stk (h : Hp) (n : Nat) (D M : Nat → Prop) (p : Nat) (ls os : List (List UInt8)) : Prop :=
 ∃ vl vo xl xo, StkV h n D p vl vo xl xo ls os ∧ M p ∧ (∀ j, ownId vl = some j → M j) ∧ (∀ j, ownId vo = some j → M j) ∧ ∀ j, M j → j < n ∧ ¬ D j
structure Chg (h : Hp) (n : Nat) (D M : Nat → Prop) (h' : Hp) (n' : Nat) (D' M' : Nat → Prop) : Prop where
 nx : n ≤ n'
 fr : Free h' n'
 d : ∀ j, D j → D' j
 d' : ∀ j, D' j → D j ∨ n ≤ j
 m' : ∀ j, M' j → M j ∨ n ≤ j
 old : ∀ j, j < n → ¬ M j → h' j = h j
theorem Chg.refl {h : Hp} {n : Nat} {D M : Nat → Prop} (hf : Free h n) : Chg h n D M h n D M := ⟨Nat.le_refl _, hf, fun _ h => h, fun _ h => .inl h, fun _ h => .inl h, fun _ _ _ => rfl⟩
theorem Chg.trans {h h1 h2 : Hp} {n n1 n2 : Nat} {D D1 D2 M M1 M2 : Nat → Prop} (a : Chg h n D M h1 n1 D1 M1) (b : Chg h1 n1 D1 M1 h2 n2 D2 M2) : Chg h n D M h2 n2 D2 M2 where
 nx := Nat.le_trans a.nx b.nx
 fr := b.fr
 d := fun j hj => b.d j (a.d j hj)
 d' := fun j hj => (b.d' j hj).elim (a.d' j) (fun q => .inr (Nat.le_trans a.nx q))
 m' := fun j hj => (b.m' j hj).elim (a.m' j) (fun q => .inr (Nat.le_trans a.nx q))
 old := fun j hj hm => by
  rw [b.old j (by have := a.nx; omega) (fun q => by
   rcases a.m' j q with q | q
   ·exact hm q
   ·omega)]
  exact a.old j hj hm
theorem StkV.keep {h h' : Hp} {n n' : Nat} {D : Nat → Prop} {p : Nat} {vl vo : AVal} {xl xo : List AVal} {ls os : List (List UInt8)} (s : StkV h n D p vl vo xl xo ls os) (hn : n ≤ n') (hp : h' p = h p) (hl : ∀ j, ownId vl = some j → h' j = h j) (ho : ∀ j, ownId vo = some j → h' j = h j) (hd : ∀ j, D j → h' j = h j) : StkV h' n' D p vl vo xl xo ls os where
 row := by rw [hp]; exact s.row
 l := s.l.keep hl
 le := s.le.mono (fun _ h => h) hd
 o := s.o.keep ho
 oe := s.oe.mono (fun _ h => h) hd
 pn := by have := s.pn; omega
 dn := fun j hj => by have := s.dn j hj; omega
 pd := s.pd
 lp := s.lp
 op := s.op
theorem Stk.old {h h' : Hp} {n n' : Nat} {D M : Nat → Prop} {p : Nat} {ls os : List (List UInt8)} (s : Stk h n D M p ls os) (hn : n ≤ n') (ho : Old h h' n) : Stk h' n' D M p ls os := by
 obtain ⟨vl, vo, xl, xo, sv, mp, ml, mo, mn⟩ := s
 refine ⟨vl, vo, xl, xo, sv.keep hn (ho p sv.pn) (fun j hj => ho j (mn j (ml j hj)).1) (fun j hj => ho j (mn j (mo j hj)).1) (fun j hj => ho j (sv.dn j hj)), mp, ml, mo, fun j hj => ⟨by have := (mn j hj).1; omega, (mn j hj).2⟩⟩
theorem Stk.beside {h h' : Hp} {n n' : Nat} {D M : Nat → Prop} {p : Nat} {ls os : List (List UInt8)} (s : Stk h n D M p ls os) (hn : n ≤ n') (ho : ∀ j, j < n → (D j ∨ M j) → h' j = h j) : Stk h' n' D M p ls os := by
 obtain ⟨vl, vo, xl, xo, sv, mp, ml, mo, mn⟩ := s
 refine ⟨vl, vo, xl, xo, sv.keep hn (ho p sv.pn (.inr mp)) (fun j hj => ho j (mn j (ml j hj)).1 (.inr (ml j hj))) (fun j hj => ho j (mn j (mo j hj)).1 (.inr (mo j hj))) (fun j hj => ho j (sv.dn j hj) (.inl hj)), mp, ml, mo, fun j hj => ⟨by have := (mn j hj).1; omega, (mn j hj).2⟩⟩
theorem old_chg {h h' : Hp} {n n' : Nat} {D M : Nat → Prop} (hf : Free h' n') (hn : n ≤ n') (ho : Old h h' n) : Chg h n D M h' n' D M := ⟨hn, hf, fun _ h => h, fun _ h => .inl h, fun _ h => .inl h, fun j hj _ => ho j hj⟩
theorem f65 (p : Nat) (ls os : List (List UInt8)) (D M : Nat → Prop) (h : Hp) (n : Nat) (hs : Stk h n D M p ls os) (hl : ls.length + os.length ≤ 1000000) (hf : Free h n) : Wp (callI env (evalW env) 65 [.ptr p 0]) h n fun v' h' n' => v' = .int .i64 (ls.length + os.length : Nat) ∧ Old h h' n := by
 obtain ⟨vl, vo, xl, xo, sv, mp, ml, mo, mn⟩ := hs
 refine wp_callI ff65 fi65 ?_
 have hr := sv.row
 simp only [fu65, Try.f65, Option.getD_some, List.replicate, fgr, Nat.reduceSub, gE]
 refine run_draw ⟨rfl, ?_⟩
 simp only [tyr, hkr, moved, Nat.reduceAdd, gE]
 refine fev_any hf (f66 p 0 vl [vl, vo] ls.length xl h n hr rfl sv.l.rds) fun v1 h1 n1 r1 w1 hn1 f1 ⟨e1, e2, e3⟩ => ?_
 subst e1; subst e2; subst e3
 simp only [tyr, hkr, moved, Nat.reduceAdd, gE]
 refine fev_any f1 (f66 p 1 vo [vl, vo] os.length xo h1 n1 hr rfl sv.o.rds) fun v2 h2 n2 r2 w2 hn2 f2 ⟨e1, e2, e3⟩ => ?_
 subst e1; subst e2; subst e3
 have w : IntKind.i64.wrap (((ls.length : Nat) : Int) + ((os.length : Nat) : Int)) = ((ls.length + os.length : Nat) : Int) := by rw [w64 (by omega) (by omega)]; omega
 simp only [fgr, bor, wrapI, Nat.reduceAdd, w, gE]
 refine ⟨(by (try simp (disch := first | assumption | omega) only [fine, gF]); repeat' (first | rfl | exact (Bool.or_eq_true _ _).mpr (.inr rfl) | refine (Bool.and_eq_true _ _).mpr ⟨?_, ?_⟩)), ?_⟩
 exact Old.refl _ _
theorem f42 (p : Nat) (ls os : List (List UInt8)) (D M : Nat → Prop) (h : Hp) (n : Nat) (hs : Stk h n D M p ls os) (hf : Free h n) : Wp (callI env (evalW env) 42 [.ptr p 0]) h n fun v' h' n' => v' = .int .i64 (ls.length : Nat) ∧ Old h h' n := by
 obtain ⟨vl, vo, xl, xo, sv, mp, ml, mo, mn⟩ := hs
 refine wp_callI ff42 fi42 ?_
 simp only [fu42, Try.f42, Option.getD_some, List.replicate, tyr, fgr, hkr, bor, binOther, aggK, moved, equalTop, equal, nilFn, nilPtr, boolOf, Nat.reduceSub, gE]
 refine opv_same (f66 p 0 vl [vl, vo] ls.length xl h n sv.row rfl sv.l.rds) ?_
 simp only [fgr, gE]
 exact Old.refl _ _
def topL (ls : List (List UInt8)) (k : Int) : List UInt8 := if 0 ≤ k ∧ k < ls.length then ls.getD (ls.length - 1 - k.toNat) [] else []
def topE (ls : List (List UInt8)) (k : Int) : Int := if 0 ≤ k ∧ k < ls.length then 0 else 120
theorem elx {h : Hp} {D : Nat → Prop} {xl : List AVal} {ls : List (List UInt8)} (le : Els h D xl ls) {k : Nat} (hk : k < ls.length) : ∃ x, xl[ls.length - 1 - k]? = some x ∧ El h D x (ls.getD (ls.length - 1 - k) []) := by
 obtain ⟨x, h1, h2⟩ := le.get (j := ls.length - 1 - k) (by omega)
 refine ⟨x, h1, ?_⟩
 rw [List.getD_eq_getElem?_getD, List.getElem?_eq_getElem (by omega)]
 exact h2
theorem f43 (p : Nat) (k : Int) (ls os : List (List UInt8)) (D M : Nat → Prop) (h : Hp) (n : Nat) (hs : Stk h n D M p ls os) (hl : ls.length ≤ 100000) (hel : ∀ l ∈ ls, l.length ≤ 1000000) (hf : Free h n) :
  Wp (callI env (evalW env) 43 [.ptr p 0, .int .i64 k]) h n fun v' h' n' => ∃ s, v' = .tup [s, .int .i64 (topE ls k)] ∧ Bytes h' s (topL ls k) ∧ (∀ j, ownId s = some j → n ≤ j ∧ j < n') ∧ Old h h' n := by
 obtain ⟨vl, vo, xl, xo, sv, mp, ml, mo, mn⟩ := hs
 refine wp_callI ff43 fi43 ?_
 by_cases c0 : k < 0
 ·have ce : topE ls k = 120 := if_neg (by omega)
  have cl : topL ls k = [] := if_neg (by omega)
  simp only [fu43, Try.f43, Option.getD_some, List.replicate, tyr, fgr, bor, binOther, aggK, doPick, equalTop, equal, nilFn, nilPtr, boolOf, Nat.reduceAdd, Nat.reduceSub, c0, gE]
  exact ⟨_, by rw [ce], by rw [cl]; exact .nils, fun j hj => (by cases hj), Old.refl _ _⟩
 simp only [fu43, Try.f43, Option.getD_some, List.replicate, tyr, fgr, hkr, bor, binOther, aggK, moved, equalTop, equal, nilFn, nilPtr, boolOf, Nat.reduceAdd, Nat.reduceSub, c0, gE]
 refine opv_same (f66 p 0 vl [vl, vo] ls.length xl h n sv.row rfl sv.l.rds) ?_
 by_cases c1 : ((ls.length : Nat) : Int) ≤ k
 ·have ce : topE ls k = 120 := if_neg (by omega)
  have cl : topL ls k = [] := if_neg (by omega)
  simp only [fgr, bor, doPick, ge_iff_le, c1, gE]
  exact ⟨_, by rw [ce], by rw [cl]; exact .nils, fun j hj => (by cases hj), Old.refl _ _⟩
 obtain ⟨m, rfl⟩ : ∃ m : Nat, k = (m : Nat) := ⟨k.toNat, by omega⟩
 have ce : topE ls (m : Nat) = 0 := if_pos (by omega)
 have cl : topL ls (m : Nat) = ls.getD (ls.length - 1 - m) [] := by unfold topL; rw [if_pos (by omega), Int.toNat_natCast]
 obtain ⟨x, hx, hxe⟩ := elx sv.le (k := m) (by omega)
 simp only [tyr, fgr, hkr, bor, doPick, moved, ge_iff_le, c1, gE]
 refine opv_callf hf (f71 p 0 m ls.length vl x [vl, vo] xl h n sv.row rfl sv.l.rds (by omega) hl hx hxe.1.kind sv.pn (fun j hj => (mn j (ml j hj)).1) hf) fun v1 h1 n1 hn1 f1 ⟨e1, o1⟩ => ?_
 subst e1
 have hb : Bytes h1 v1 (ls.getD (ls.length - 1 - m) []) := hxe.1.keep fun j hj => o1 j (sv.dn j (hxe.2 j hj))
 have hml : (ls.getD (ls.length - 1 - m) []).length ≤ 1000000 := by
  rw [List.getD_eq_getElem?_getD, List.getElem?_eq_getElem (by omega)]
  exact hel _ (List.getElem_mem _)
 simp only [hkr, gE]
 refine opv_callf f1 (f64 v1 _ h1 n1 hb hml f1) fun v2 h2 n2 hn2 f2 ⟨b2, i2, o2⟩ => ?_
 simp only [fgr, gE]
 exact ⟨v2, by rw [ce], by rw [cl]; exact b2, fun j hj => ⟨by have := i2 j hj; omega, (i2 j hj).2⟩, fun j hj => (o2 j (by omega)).trans (o1 j hj)⟩
theorem cut_stk {h h' : Hp} {n n' : Nat} {D M : Nat → Prop} {p : Nat} {vl vo : AVal} {xl xo : List AVal} {ls os : List (List UInt8)} (sv : StkV h n D p vl vo xl xo ls os) (k : Nat) (hk : k ≤ ls.length) (mp : M p) (ml : ∀ j, ownId vl = some j → M j) (mo : ∀ j, ownId vo = some j → M j) (mn : ∀ j, M j → j < n ∧ ¬ D j)
  (hr : ∃ e, h' p = some (.row (.l [cutOf (ls.length - k) vl, vo]) e)) (hl : Lst h' 22 1 (cutOf (ls.length - k) vl) (ls.length - k) (xl.take (ls.length - k))) (ho : ∀ j, j < n → j ≠ p → h' j = h j) (hn : n ≤ n') : Stk h' n' D M p (ls.take (ls.length - k)) os := by
 have hd : ∀ j, D j → h' j = h j := fun j hj => ho j (sv.dn j hj) (fun q => sv.pd (by rw [← q]; exact hj))
 refine ⟨_, vo, _, xo, ⟨hr, by rw [List.length_take, Nat.min_eq_left (by omega)]; exact hl, (sv.le.take _).mono (fun _ h => h) hd, sv.o.keep fun j hj => ho j (mn j (mo j hj)).1 (sv.op j hj).1, sv.oe.mono (fun _ h => h) hd, by have := sv.pn; omega, fun j hj => by have := sv.dn j hj; omega, sv.pd, fun j hj => ?_, fun j hj => ?_⟩, mp, fun j hj => ?_, mo, fun j hj => ⟨by have := (mn j hj).1; omega, (mn j hj).2⟩⟩
 ·rw [cut_id] at hj; exact sv.lp j hj
 ·rw [cut_id]; exact sv.op j hj
 ·rw [cut_id] at hj; exact ml j hj
def popL (ls : List (List UInt8)) : List (List UInt8) := ls.take (ls.length - 1)
theorem f46 (p : Nat) (ls os : List (List UInt8)) (D M : Nat → Prop) (h : Hp) (n : Nat) (hs : Stk h n D M p ls os) (hl : ls.length ≤ 100000) (hel : ∀ l ∈ ls, l.length ≤ 1000000) (hf : Free h n) :
  Wp (callI env (evalW env) 46 [.ptr p 0]) h n fun v' h' n' => (∃ s, v' = .tup [s, .int .i64 (topE ls 0)] ∧ Bytes h' s (topL ls 0) ∧ (∀ j, ownId s = some j → n ≤ j ∧ j < n')) ∧ Stk h' n' D M p (popL ls) os ∧ Chg h n D M h' n' D M := by
 refine wp_callI ff46 fi46 ?_
 simp only [fu46, Try.f46, Option.getD_some, List.replicate, fgr, hkr, Nat.reduceSub, gE]
 refine opv_callf hf (f43 p 0 ls os D M h n hs hl hel hf) fun v1 h1 n1 hn1 f1 ⟨s, e1, b1, i1, o1⟩ => ?_
 subst e1
 have hs1 := hs.old hn1 o1
 by_cases c : ls = []
 ·subst c
  have ce : topE [] 0 = 120 := rfl
  simp only [fgr, bor, Int.reduceEq, ce, gE]
  exact ⟨⟨s, rfl, b1, i1⟩, hs1, old_chg f1 hn1 o1⟩
 have hpos := List.length_pos_iff.2 c
 have ce : topE ls 0 = 0 := if_pos (by omega)
 simp only [tyr, fgr, hkr, bor, moved, ce, gE]
 obtain ⟨vl, vo, xl, xo, sv, mp, ml, mo, mn⟩ := hs1
 have hxl : xl.all oneCell = true := sv.le.cells
 refine opv_callf f1 (f72 p 0 1 vl [vl, vo] ls.length xl h1 n1 sv.row rfl sv.l hxl sv.pn (fun q => (sv.lp p q).1 rfl) (by omega) hl f1) fun v2 h2 n2 hn2 f2 ⟨l2, i2, r2, c2, o2, _, _⟩ => ?_
 simp only [fgr, gE]
 have old : Chg h n D M h2 n2 D M := by
  refine ⟨by omega, f2, fun _ h => h, fun _ h => .inl h, fun _ h => .inl h, fun j hj hm => ?_⟩
  rw [o2 j (by omega) (fun q => hm (by rw [q]; exact mp))]; exact o1 j hj
 refine ⟨⟨s, rfl, b1.keep fun j hj => o2 j (i1 j hj).2 (fun q => ?_), fun j hj => ⟨(i1 j hj).1, by have := (i1 j hj).2; omega⟩⟩, cut_stk sv 1 (by omega) mp ml mo mn r2 c2 o2 hn2, old⟩
 have h3 := (hs.old (Nat.le_refl n) (Old.refl _ _))
 obtain ⟨_, _, _, _, sv0, _⟩ := h3
 have := sv0.pn
 have := (i1 j hj).1
 omega
theorem put_stk {h h' : Hp} {n n' : Nat} {D M : Nat → Prop} {p : Nat} {vl vo s' : AVal} {xl xo ys : List AVal} {ls os ms : List (List UInt8)} (sv : StkV h n D p vl vo xl xo ls os) (mp : M p) (ml : ∀ j, ownId vl = some j → M j) (mo : ∀ j, ownId vo = some j → M j) (mn : ∀ j, M j → j < n ∧ ¬ D j)
  (hl : Lst h' 22 1 s' (ls.length + ms.length) (xl ++ ys)) (hr : Row h' p [s', vo]) (hid : ownId s' = ownId vl ∨ ownId s' = some n ∧ n < n') (ho : ∀ j, j < n → j ≠ p → ownId vl ≠ some j → h' j = h j) (hf : Free h' n') (hn : n ≤ n') (hys : Els h' D ys ms) (hdn : True) :
  ∃ M', Stk h' n' D M' p (ls ++ ms) os ∧ Chg h n D M h' n' D M' := by
 have hd : ∀ j, D j → h' j = h j := fun j hj => ho j (sv.dn j hj) (fun q => sv.pd (by rw [← q]; exact hj)) (fun q => (sv.lp j q).2 hj)
 have hvo : ∀ j, ownId vo = some j → h' j = h j := fun j hj => ho j (mn j (mo j hj)).1 (sv.op j hj).1 (sv.op j hj).2.2
 refine ⟨fun j => j = p ∨ ownId s' = some j ∨ ownId vo = some j, ⟨s', vo, xl ++ ys, xo, ⟨hr, by rw [List.length_append]; exact hl, (sv.le.mono (fun _ h => h) hd).app hys, sv.o.keep hvo, sv.oe.mono (fun _ h => h) hd, by have := sv.pn; omega, fun j hj => by have := sv.dn j hj; omega, sv.pd, fun j hj => ?_, fun j hj => ⟨(sv.op j hj).1, (sv.op j hj).2.1, fun q => ?_⟩⟩, .inl rfl, fun j hj => .inr (.inl hj), fun j hj => .inr (.inr hj), fun j hj => ?_⟩, ⟨hn, hf, fun _ h => h, fun _ h => .inl h, fun j hj => ?_, fun j hj hm => ho j hj (fun q => hm (by rw [q]; exact mp)) (fun q => hm (ml j q))⟩⟩
 ·rcases hid with q | ⟨q, q2⟩
  ·rw [q] at hj; exact sv.lp j hj
  ·rw [q] at hj; injection hj with hj; subst hj
   exact ⟨fun e => by have := sv.pn; omega, fun e => by have := sv.dn n e; omega⟩
 ·rcases hid with q1 | ⟨q1, q2⟩
  ·rw [q1] at q; exact (sv.op j hj).2.2 q
  ·rw [q1] at q; injection q with q; have := (mn j (mo j hj)).1; omega
 ·rcases hj with q | q | q
  ·subst q; exact ⟨by have := sv.pn; omega, sv.pd⟩
  ·rcases hid with q1 | ⟨q1, q2⟩
   ·rw [q1] at q; exact ⟨by have := (mn j (ml j q)).1; omega, (sv.lp j q).2⟩
   ·rw [q1] at q; injection q with q; subst q
    exact ⟨by omega, fun e => by have := sv.dn n e; omega⟩
  ·exact ⟨by have := (mn j (mo j q)).1; omega, (sv.op j q).2.1⟩
 ·rcases hj with q | q | q
  ·rw [q]; exact .inl mp
  ·rcases hid with q1 | ⟨q1, q2⟩
   ·rw [q1] at q; exact .inl (ml j q)
   ·rw [q1] at q; injection q with q; exact .inr (by omega)
  ·exact .inl (mo j q)
theorem StkV.more {h : Hp} {n : Nat} {D D' : Nat → Prop} {p : Nat} {vl vo : AVal} {xl xo : List AVal} {ls os : List (List UInt8)} (s : StkV h n D p vl vo xl xo ls os) (hd : ∀ j, D j → D' j) (h1 : ∀ j, D' j → j < n) (h2 : ∀ j, D' j → j ≠ p ∧ ownId vl ≠ some j ∧ ownId vo ≠ some j) : StkV h n D' p vl vo xl xo ls os where
 row := s.row
 l := s.l
 le := s.le.mono hd (fun _ _ => rfl)
 o := s.o
 oe := s.oe.mono hd (fun _ _ => rfl)
 pn := s.pn
 dn := h1
 pd := fun q => (h2 p q).1 rfl
 lp := fun j hj => ⟨(s.lp j hj).1, fun q => (h2 j q).2.1 hj⟩
 op := fun j hj => ⟨(s.op j hj).1, fun q => (h2 j q).2.2 hj, (s.op j hj).2.2⟩
def pushE (ls os : List (List UInt8)) (l : List UInt8) : Int := if 520 < l.length then 120 else if ls.length + os.length = 100 then 121 else 0
def pushL (ls os : List (List UInt8)) (l : List UInt8) : List (List UInt8) := if pushE ls os l = 0 then ls ++ [l] else ls
theorem pushE_cases (ls os : List (List UInt8)) (l : List UInt8) : (520 < l.length ∧ pushE ls os l = 120) ∨ (¬ 520 < l.length ∧ ls.length + os.length = 100 ∧ pushE ls os l = 121) ∨ (¬ 520 < l.length ∧ ls.length + os.length ≠ 100 ∧ pushE ls os l = 0) := by
 unfold pushE
 by_cases a : 520 < l.length
 ·exact .inl ⟨a, if_pos a⟩
 ·rw [if_neg a]
  by_cases b : ls.length + os.length = 100
  ·exact .inr (.inl ⟨a, b, if_pos b⟩)
  ·exact .inr (.inr ⟨a, b, if_neg b⟩)
end Go.Am.Ytmoplhbncjicbaa
set_option linter.unusedSimpArgs false
set_option linter.unusedVariables false
set_option linter.defProp false
set_option maxRecDepth 10000
namespace Go.Am.Ytmoplhbncjicbaa
open Go Go.Am Go.Proofs
theorem f45 (p : Nat) (v : AVal) (l : List UInt8) (ls os : List (List UInt8)) (D M : Nat → Prop) (h : Hp) (n : Nat) (hs : Stk h n D M p ls os) (hl : ls.length + os.length ≤ 1000) (hb : Bytes h v l) (hf : Free h n) :
  Wp (callI env (evalW env) 45 [.ptr p 0, v]) h n fun v' h' n' => v' = .int .i64 (pushE ls os l) ∧ ∃ D' M', Stk h' n' D' M' p (pushL ls os l) os ∧ Chg h n D M h' n' D' M' := by
 refine wp_callI ff45 fi45 ?_
 rcases pushE_cases ls os l with ⟨a, ce⟩ | ⟨a, b, ce⟩ | ⟨a, b, ce⟩
 ·have c1 : 520 < ((l.length : Nat) : Int) := by omega
  simp only [fu45, Try.f45, Option.getD_some, List.replicate, tyr, fgr, builtin, bor, binOther, aggK, equalTop, equal, nilFn, nilPtr, boolOf, Nat.reduceAdd, Nat.reduceSub, gt_iff_lt, hb.bLen t22, c1, gE]
  refine ⟨by rw [ce], D, M, ?_, Chg.refl hf⟩
  unfold pushL
  rw [ce, if_neg (by decide)]; exact hs
 ·have c1 : ¬ 520 < ((l.length : Nat) : Int) := by omega
  simp only [fu45, Try.f45, Option.getD_some, List.replicate, tyr, fgr, hkr, builtin, bor, binOther, aggK, equalTop, equal, nilFn, nilPtr, boolOf, Nat.reduceAdd, Nat.reduceSub, gt_iff_lt, hb.bLen t22, c1, gE]
  refine opv_callf hf (f65 p ls os D M h n hs (by omega) hf) fun v1 h1 n1 hn1 f1 ⟨e1, o1⟩ => ?_
  subst e1
  have c2 : ((ls.length + os.length : Nat) : Int) = 100 := by omega
  simp only [fgr, bor, c2, gE]
  refine ⟨by rw [ce], D, M, ?_, old_chg f1 hn1 o1⟩
  unfold pushL
  rw [ce, if_neg (by decide)]; exact hs.old hn1 o1
 ·have c1 : ¬ 520 < ((l.length : Nat) : Int) := by omega
  simp only [fu45, Try.f45, Option.getD_some, List.replicate, tyr, fgr, hkr, builtin, bor, binOther, aggK, equalTop, equal, nilFn, nilPtr, boolOf, Nat.reduceAdd, Nat.reduceSub, gt_iff_lt, hb.bLen t22, c1, gE]
  refine opv_callf hf (f65 p ls os D M h n hs (by omega) hf) fun v1 h1 n1 hn1 f1 ⟨e1, o1⟩ => ?_
  subst e1
  have c2 : ¬ ((ls.length + os.length : Nat) : Int) = 100 := by omega
  simp only [fgr, bor, c2, gE]
  refine run_draw ⟨rfl, ?_⟩
  have hlive : ∀ j, ownId v = some j → j < n := fun j hj => by
   cases hb with
   | nils => cases hj
   | isl => cases hj
   | sl id off cap c e l hh hs' hc =>
    injection hj with hj; subst hj
    by_cases q : id < n
    ·exact q
    ·rw [hf id (by omega)] at hh; cases hh
  have hb1 : Bytes h1 v l := hb.keep fun j hj => o1 j (hlive j hj)
  simp only [tyr, hkr, moved, Nat.reduceAdd, gE]
  refine fev_any f1 (f64 v l h1 n1 hb1 (by omega) f1) fun v2 h2 n2 r2 w2 hn2 f2 ⟨b2, i2, o2⟩ => ?_
  simp only [Nat.reduceAdd, gE]
  rw [bs22 v2 b2.kind]
  refine fev_row ti22 f2 fun h3 r3 w3 g3 o3 f3 => ?_
  have old3 : Old h h3 n := fun j hj => by rw [o3 j (by omega), o2 j (by omega), o1 j hj]
  have hs3 := hs.old (n' := n2 + 1) (by omega) old3
  obtain ⟨vl, vo, xl, xo, sv, mp, ml, mo, mn⟩ := hs3
  simp only [hkr, Nat.reduceAdd, gE]
  refine fev_any f3 (f63 p 0 vl (.sl n2 0 1 (some 1) 1) [vl, vo] ls.length 1 xl [v2] h3 (n2 + 1) sv.row rfl sv.l (row_rds g3 rfl) (by simp [b2.kind.2.1]) sv.pn (fun q => (sv.lp p q).1 rfl) (by omega) f3) fun v4 h4 n4 r4 w4 hn4 f4 ⟨e4, s', l4, r4', i4, o4, _, _⟩ => ?_
  subst e4
  simp only [fgr, Nat.reduceAdd, gE]
  refine ⟨(by (try simp (disch := first | assumption | omega) only [fine, gF]); repeat' (first | rfl | exact (Bool.or_eq_true _ _).mpr (.inr rfl) | refine (Bool.and_eq_true _ _).mpr ⟨?_, ?_⟩)), ?_⟩
  have hpn : p < n := by obtain ⟨_, _, _, _, sv0, _⟩ := hs; exact sv0.pn
  have mn0 : ∀ j, M j → j < n ∧ ¬ D j := by obtain ⟨_, _, _, _, _, _, _, _, q⟩ := hs; exact q
  have sv' := sv.more (D' := fun j => D j ∨ ownId v2 = some j) (fun j q => .inl q) (fun j q => q.elim (fun q => sv.dn j q) (fun q => by have := (i2 j q).2; omega)) (fun j q => by
   rcases q with q | q
   ·exact ⟨fun e => sv.pd (by rw [← e]; exact q), fun e => (sv.lp j e).2 q, fun e => (sv.op j e).2.1 q⟩
   ·have a1 := (i2 j q).1
    refine ⟨fun e => by omega, fun e => ?_, fun e => ?_⟩
    ·have := (mn0 j (ml j e)).1; omega
    ·have := (mn0 j (mo j e)).1; omega)
  have h2v : ∀ j, ownId v2 = some j → h4 j = h2 j := fun j q => by
   have a1 := i2 j q
   rw [o4 j (by omega) (fun e => by omega) (fun e => by have := (mn0 j (ml j e)).1; omega), o3 j (by omega)]
  obtain ⟨M', hs4, ch4⟩ := put_stk (ms := [l]) sv' mp ml mo (fun j hj => ⟨(mn j hj).1, fun q => q.elim (mn j hj).2 (fun q => by have := (i2 j q).1; have := (mn0 j hj).1; omega)⟩) l4 r4' i4 o4 f4 hn4 (Els.one ⟨b2.keep h2v, fun j q => .inr q⟩) trivial
  refine ⟨by rw [ce], fun j => D j ∨ ownId v2 = some j, M', ?_, ⟨by have := ch4.nx; omega, f4, fun j q => .inl q, fun j q => q.elim .inl (fun q => .inr (by have := (i2 j q).1; omega)), fun j q => (ch4.m' j q).elim .inl (fun q => .inr (by omega)), fun j hj hm => ?_⟩⟩
  ·unfold pushL
   rw [ce, if_pos rfl]; exact hs4
  ·rw [ch4.old j (by omega) hm]; exact old3 j hj
def frm (c : Int) : Option (Nat × List Nat) :=
 if c = 109 then some (2, []) else
 if c = 110 then some (2, [0, 1, 0, 1]) else
 if c = 111 then some (3, [0, 1, 2, 0, 1, 2]) else
 if c = 112 then some (4, [0, 1, 2, 3, 0, 1]) else
 if c = 113 then some (6, [2, 3, 4, 5, 0, 1]) else
 if c = 114 then some (4, [2, 3, 0, 1]) else
 if c = 117 then some (1, []) else
 if c = 118 then some (1, [0, 0]) else
 if c = 119 then some (2, [1]) else
 if c = 120 then some (2, [0, 1, 0]) else
 if c = 123 then some (3, [1, 2, 0]) else
 if c = 124 then some (2, [1, 0]) else
 if c = 125 then some (2, [1, 0, 1]) else
 none
def leastV (c : Int) : Int := match frm c with
 | some x => x.1
 | none => if c = 116 ∨ c = 108 then 0 else if c = 115 ∨ c = 130 ∨ c = 107 ∨ c = 121 ∨ c = 122 then 1 else -1
def idxs (c : Int) : List Nat := match frm c with
 | some x => x.2
 | none => []
def fA (c : Int) : List UInt8 := match frm c with
 | some x => (List.range x.1).map fun i => UInt8.ofNat (97 + i)
 | none => []
def fB (c : Int) : List UInt8 := (idxs c).map fun i => UInt8.ofNat (97 + i)
def isF (c : Int) : Bool := (frm c).isSome
theorem lv109 : leastV 109 = 2 := by decide
theorem ix109 : idxs 109 = [] := by decide
theorem fA109 : fA 109 = [97, 98] := by decide
theorem fB109 : fB 109 = [] := by decide
theorem if109 : isF 109 = true := by decide
theorem fr109 : frm 109 = some (2, []) := by decide
theorem lv110 : leastV 110 = 2 := by decide
theorem ix110 : idxs 110 = [0, 1, 0, 1] := by decide
theorem fA110 : fA 110 = [97, 98] := by decide
theorem fB110 : fB 110 = [97, 98, 97, 98] := by decide
theorem if110 : isF 110 = true := by decide
theorem fr110 : frm 110 = some (2, [0, 1, 0, 1]) := by decide
theorem lv111 : leastV 111 = 3 := by decide
theorem ix111 : idxs 111 = [0, 1, 2, 0, 1, 2] := by decide
theorem fA111 : fA 111 = [97, 98, 99] := by decide
theorem fB111 : fB 111 = [97, 98, 99, 97, 98, 99] := by decide
theorem if111 : isF 111 = true := by decide
theorem fr111 : frm 111 = some (3, [0, 1, 2, 0, 1, 2]) := by decide
theorem lv112 : leastV 112 = 4 := by decide
theorem ix112 : idxs 112 = [0, 1, 2, 3, 0, 1] := by decide
theorem fA112 : fA 112 = [97, 98, 99, 100] := by decide
theorem fB112 : fB 112 = [97, 98, 99, 100, 97, 98] := by decide
theorem if112 : isF 112 = true := by decide
theorem fr112 : frm 112 = some (4, [0, 1, 2, 3, 0, 1]) := by decide
theorem lv113 : leastV 113 = 6 := by decide
theorem ix113 : idxs 113 = [2, 3, 4, 5, 0, 1] := by decide
theorem fA113 : fA 113 = [97, 98, 99, 100, 101, 102] := by decide
theorem fB113 : fB 113 = [99, 100, 101, 102, 97, 98] := by decide
theorem if113 : isF 113 = true := by decide
theorem fr113 : frm 113 = some (6, [2, 3, 4, 5, 0, 1]) := by decide
theorem lv114 : leastV 114 = 4 := by decide
theorem ix114 : idxs 114 = [2, 3, 0, 1] := by decide
theorem fA114 : fA 114 = [97, 98, 99, 100] := by decide
theorem fB114 : fB 114 = [99, 100, 97, 98] := by decide
theorem if114 : isF 114 = true := by decide
theorem fr114 : frm 114 = some (4, [2, 3, 0, 1]) := by decide
theorem lv117 : leastV 117 = 1 := by decide
theorem ix117 : idxs 117 = [] := by decide
theorem fA117 : fA 117 = [97] := by decide
theorem fB117 : fB 117 = [] := by decide
theorem if117 : isF 117 = true := by decide
theorem fr117 : frm 117 = some (1, []) := by decide
theorem lv118 : leastV 118 = 1 := by decide
theorem ix118 : idxs 118 = [0, 0] := by decide
theorem fA118 : fA 118 = [97] := by decide
theorem fB118 : fB 118 = [97, 97] := by decide
theorem if118 : isF 118 = true := by decide
theorem fr118 : frm 118 = some (1, [0, 0]) := by decide
theorem lv119 : leastV 119 = 2 := by decide
theorem ix119 : idxs 119 = [1] := by decide
theorem fA119 : fA 119 = [97, 98] := by decide
theorem fB119 : fB 119 = [98] := by decide
theorem if119 : isF 119 = true := by decide
theorem fr119 : frm 119 = some (2, [1]) := by decide
theorem lv120 : leastV 120 = 2 := by decide
theorem ix120 : idxs 120 = [0, 1, 0] := by decide
theorem fA120 : fA 120 = [97, 98] := by decide
theorem fB120 : fB 120 = [97, 98, 97] := by decide
theorem if120 : isF 120 = true := by decide
theorem fr120 : frm 120 = some (2, [0, 1, 0]) := by decide
theorem lv123 : leastV 123 = 3 := by decide
theorem ix123 : idxs 123 = [1, 2, 0] := by decide
theorem fA123 : fA 123 = [97, 98, 99] := by decide
theorem fB123 : fB 123 = [98, 99, 97] := by decide
theorem if123 : isF 123 = true := by decide
theorem fr123 : frm 123 = some (3, [1, 2, 0]) := by decide
theorem lv124 : leastV 124 = 2 := by decide
theorem ix124 : idxs 124 = [1, 0] := by decide
theorem fA124 : fA 124 = [97, 98] := by decide
theorem fB124 : fB 124 = [98, 97] := by decide
theorem if124 : isF 124 = true := by decide
theorem fr124 : frm 124 = some (2, [1, 0]) := by decide
theorem lv125 : leastV 125 = 2 := by decide
theorem ix125 : idxs 125 = [1, 0, 1] := by decide
theorem fA125 : fA 125 = [97, 98] := by decide
theorem fB125 : fB 125 = [98, 97, 98] := by decide
theorem if125 : isF 125 = true := by decide
theorem fr125 : frm 125 = some (2, [1, 0, 1]) := by decide
theorem lv116 : leastV 116 = 0 := by decide
theorem lv108 : leastV 108 = 0 := by decide
theorem lv115 : leastV 115 = 1 := by decide
theorem lv130 : leastV 130 = 1 := by decide
theorem lv107 : leastV 107 = 1 := by decide
theorem lv121 : leastV 121 = 1 := by decide
theorem lv122 : leastV 122 = 1 := by decide
theorem frN {c : Int} (e109 : ¬ c = 109) (e110 : ¬ c = 110) (e111 : ¬ c = 111) (e112 : ¬ c = 112) (e113 : ¬ c = 113) (e114 : ¬ c = 114) (e117 : ¬ c = 117) (e118 : ¬ c = 118) (e119 : ¬ c = 119) (e120 : ¬ c = 120) (e123 : ¬ c = 123) (e124 : ¬ c = 124) (e125 : ¬ c = 125) : frm c = none := by
 unfold frm
 rw [if_neg e109, if_neg e110, if_neg e111, if_neg e112, if_neg e113, if_neg e114, if_neg e117, if_neg e118, if_neg e119, if_neg e120, if_neg e123, if_neg e124, if_neg e125]
theorem lvN {c : Int} (h : frm c = none) (e116 : ¬ c = 116) (e108 : ¬ c = 108) (e115 : ¬ c = 115) (e130 : ¬ c = 130) (e107 : ¬ c = 107) (e121 : ¬ c = 121) (e122 : ¬ c = 122) : leastV c = -1 := by
 unfold leastV
 rw [h]
 simp only [e116, e108, e115, e130, e107, e121, e122, or_self, ↓reduceIte]
theorem ixN {c : Int} (h : frm c = none) : idxs c = [] ∧ fA c = [] ∧ fB c = [] ∧ isF c = false := by
 unfold fA fB isF idxs
 rw [h]; exact ⟨rfl, rfl, rfl, rfl⟩
def iN (i : Nat) : AVal := .int .i64 (i : Nat)
theorem f67 (h : Hp) (n : Nat) (c : Int) : Wp (callI env (evalW env) 67 [.int .u8 c]) h n fun v' h' n' => v' = .int .i64 (leastV c) ∧ h' = h ∧ n' = n := by
 refine wp_callI ff67 fi67 ?_
 by_cases e109 : c = 109
 ·subst e109
  simp only [fu67, Try.f67, Option.getD_some, List.replicate, fgr, bor, Nat.reduceSub, Int.reduceEq, Int.reduceNeg, lv109, gE]
 by_cases e110 : c = 110
 ·subst e110
  simp only [fu67, Try.f67, Option.getD_some, List.replicate, fgr, bor, Nat.reduceSub, Int.reduceEq, Int.reduceNeg, lv110, gE]
 by_cases e111 : c = 111
 ·subst e111
  simp only [fu67, Try.f67, Option.getD_some, List.replicate, fgr, bor, Nat.reduceSub, Int.reduceEq, Int.reduceNeg, lv111, gE]
 by_cases e112 : c = 112
 ·subst e112
  simp only [fu67, Try.f67, Option.getD_some, List.replicate, fgr, bor, Nat.reduceSub, Int.reduceEq, Int.reduceNeg, lv112, gE]
 by_cases e113 : c = 113
 ·subst e113
  simp only [fu67, Try.f67, Option.getD_some, List.replicate, fgr, bor, Nat.reduceSub, Int.reduceEq, Int.reduceNeg, lv113, gE]
 by_cases e114 : c = 114
 ·subst e114
  simp only [fu67, Try.f67, Option.getD_some, List.replicate, fgr, bor, Nat.reduceSub, Int.reduceEq, Int.reduceNeg, lv114, gE]
 by_cases e117 : c = 117
 ·subst e117
  simp only [fu67, Try.f67, Option.getD_some, List.replicate, fgr, bor, Nat.reduceSub, Int.reduceEq, Int.reduceNeg, lv117, gE]
 by_cases e118 : c = 118
 ·subst e118
  simp only [fu67, Try.f67, Option.getD_some, List.replicate, fgr, bor, Nat.reduceSub, Int.reduceEq, Int.reduceNeg, lv118, gE]
 by_cases e119 : c = 119
 ·subst e119
  simp only [fu67, Try.f67, Option.getD_some, List.replicate, fgr, bor, Nat.reduceSub, Int.reduceEq, Int.reduceNeg, lv119, gE]
 by_cases e120 : c = 120
 ·subst e120
  simp only [fu67, Try.f67, Option.getD_some, List.replicate, fgr, bor, Nat.reduceSub, Int.reduceEq, Int.reduceNeg, lv120, gE]
 by_cases e123 : c = 123
 ·subst e123
  simp only [fu67, Try.f67, Option.getD_some, List.replicate, fgr, bor, Nat.reduceSub, Int.reduceEq, Int.reduceNeg, lv123, gE]
 by_cases e124 : c = 124
 ·subst e124
  simp only [fu67, Try.f67, Option.getD_some, List.replicate, fgr, bor, Nat.reduceSub, Int.reduceEq, Int.reduceNeg, lv124, gE]
 by_cases e125 : c = 125
 ·subst e125
  simp only [fu67, Try.f67, Option.getD_some, List.replicate, fgr, bor, Nat.reduceSub, Int.reduceEq, Int.reduceNeg, lv125, gE]
 by_cases e116 : c = 116
 ·subst e116
  simp only [fu67, Try.f67, Option.getD_some, List.replicate, fgr, bor, Nat.reduceSub, Int.reduceNeg, lv116, gE]
 by_cases e108 : c = 108
 ·subst e108
  simp only [fu67, Try.f67, Option.getD_some, List.replicate, fgr, bor, Nat.reduceSub, Int.reduceEq, Int.reduceNeg, lv108, gE]
 by_cases e115 : c = 115
 ·subst e115
  simp only [fu67, Try.f67, Option.getD_some, List.replicate, fgr, bor, Nat.reduceSub, Int.reduceEq, Int.reduceNeg, lv115, gE]
 by_cases e130 : c = 130
 ·subst e130
  simp only [fu67, Try.f67, Option.getD_some, List.replicate, fgr, bor, Nat.reduceSub, Int.reduceEq, Int.reduceNeg, lv130, gE]
 by_cases e107 : c = 107
 ·subst e107
  simp only [fu67, Try.f67, Option.getD_some, List.replicate, fgr, bor, Nat.reduceSub, Int.reduceEq, Int.reduceNeg, lv107, gE]
 by_cases e121 : c = 121
 ·subst e121
  simp only [fu67, Try.f67, Option.getD_some, List.replicate, fgr, bor, Nat.reduceSub, Int.reduceEq, Int.reduceNeg, lv121, gE]
 by_cases e122 : c = 122
 ·subst e122
  simp only [fu67, Try.f67, Option.getD_some, List.replicate, fgr, bor, Nat.reduceSub, Int.reduceEq, Int.reduceNeg, lv122, gE]
 have hn := lvN (frN e109 e110 e111 e112 e113 e114 e117 e118 e119 e120 e123 e124 e125) e116 e108 e115 e130 e107 e121 e122
 simp only [fu67, Try.f67, Option.getD_some, List.replicate, fgr, bor, Nat.reduceSub, Int.reduceNeg, hn, e109, e110, e111, e112, e113, e114, e117, e118, e119, e120, e123, e124, e125, e116, e108, e115, e130, e107, e121, e122, gE]
def c67 (h : Hp) (n : Nat) (c : Int) := opv_det (f67 h n c)
theorem f44 (h : Hp) (n : Nat) (c : Int) : Wp (callI env (evalW env) 44 [.int .u8 c]) h n fun v' h' n' => v' = .bool (decide (0 ≤ leastV c)) ∧ h' = h ∧ n' = n := by
 refine wp_callI ff44 fi44 ?_
 simp only [fu44, Try.f44, Option.getD_some, List.replicate, fgr, hkr, bor, Nat.reduceSub, ge_iff_le, c67, gE]
def c44 (h : Hp) (n : Nat) (c : Int) := opv_det (f44 h n c)
theorem f100 (c : Int) (h : Hp) (n : Nat) (hf : Free h n) : Wp (callI env (evalW env) 100 [.int .u8 c]) h n fun v' h' n' => ∃ s, v' = .tup [s, .bool (isF c)] ∧ Rds h' 1 s (idxs c).length ((idxs c).map iN) ∧ (∀ j, ownId s = some j → n ≤ j) ∧ Old h h' n := by
 refine wp_callI ff100 fi100 ?_
 by_cases e109 : c = 109
 ·subst e109
  simp only [fu100, Try.f100, Option.getD_some, List.replicate, fgr, bor, Nat.reduceSub, Int.reduceEq, if109, ix109, gE]
  exact ⟨_, rfl, .nils, fun j hj => (by cases hj), Old.refl _ _⟩
 by_cases e110 : c = 110
 ·subst e110
  simp only [fu100, Try.f100, Option.getD_some, List.replicate, tyr, fgr, bor, cel, newRow, Nat.reduceAdd, Nat.reduceSub, Nat.beq, Int.reduceEq, buildSlice, reps, fill, List.take_succ_cons, List.take_zero, List.drop_succ_cons, List.drop_zero, Nat.ble, Nat.mul_one, Nat.one_mul, if110, ix110, gE]
  exact ⟨_, rfl, row_rds (upd_same _ _ _) rfl, fun j hj => by injection hj with hj; omega, fun j hj => upd_ne _ _ (by omega)⟩
 by_cases e111 : c = 111
 ·subst e111
  simp only [fu100, Try.f100, Option.getD_some, List.replicate, tyr, fgr, bor, cel, newRow, Nat.reduceAdd, Nat.reduceSub, Nat.beq, Int.reduceEq, buildSlice, reps, fill, List.take_succ_cons, List.take_zero, List.drop_succ_cons, List.drop_zero, Nat.ble, Nat.mul_one, Nat.one_mul, if111, ix111, gE]
  exact ⟨_, rfl, row_rds (upd_same _ _ _) rfl, fun j hj => by injection hj with hj; omega, fun j hj => upd_ne _ _ (by omega)⟩
 by_cases e112 : c = 112
 ·subst e112
  simp only [fu100, Try.f100, Option.getD_some, List.replicate, tyr, fgr, bor, cel, newRow, Nat.reduceAdd, Nat.reduceSub, Nat.beq, Int.reduceEq, buildSlice, reps, fill, List.take_succ_cons, List.take_zero, List.drop_succ_cons, List.drop_zero, Nat.ble, Nat.mul_one, Nat.one_mul, if112, ix112, gE]
  exact ⟨_, rfl, row_rds (upd_same _ _ _) rfl, fun j hj => by injection hj with hj; omega, fun j hj => upd_ne _ _ (by omega)⟩
 by_cases e113 : c = 113
 ·subst e113
  simp only [fu100, Try.f100, Option.getD_some, List.replicate, tyr, fgr, bor, cel, newRow, Nat.reduceAdd, Nat.reduceSub, Nat.beq, Int.reduceEq, buildSlice, reps, fill, List.take_succ_cons, List.take_zero, List.drop_succ_cons, List.drop_zero, Nat.ble, Nat.mul_one, Nat.one_mul, if113, ix113, gE]
  exact ⟨_, rfl, row_rds (upd_same _ _ _) rfl, fun j hj => by injection hj with hj; omega, fun j hj => upd_ne _ _ (by omega)⟩
 by_cases e114 : c = 114
 ·subst e114
  simp only [fu100, Try.f100, Option.getD_some, List.replicate, tyr, fgr, bor, cel, newRow, Nat.reduceAdd, Nat.reduceSub, Nat.beq, Int.reduceEq, buildSlice, reps, fill, List.take_succ_cons, List.take_zero, List.drop_succ_cons, List.drop_zero, Nat.ble, Nat.mul_one, Nat.one_mul, if114, ix114, gE]
  exact ⟨_, rfl, row_rds (upd_same _ _ _) rfl, fun j hj => by injection hj with hj; omega, fun j hj => upd_ne _ _ (by omega)⟩
 by_cases e117 : c = 117
 ·subst e117
  simp only [fu100, Try.f100, Option.getD_some, List.replicate, fgr, bor, Nat.reduceSub, if117, ix117, gE]
  exact ⟨_, rfl, .nils, fun j hj => (by cases hj), Old.refl _ _⟩
 by_cases e118 : c = 118
 ·subst e118
  simp only [fu100, Try.f100, Option.getD_some, List.replicate, tyr, fgr, bor, cel, newRow, Nat.reduceAdd, Nat.reduceSub, Nat.beq, Int.reduceEq, buildSlice, reps, fill, List.take_succ_cons, List.take_zero, List.drop_succ_cons, List.drop_zero, Nat.ble, Nat.one_mul, if118, ix118, gE]
  exact ⟨_, rfl, row_rds (upd_same _ _ _) rfl, fun j hj => by injection hj with hj; omega, fun j hj => upd_ne _ _ (by omega)⟩
 by_cases e119 : c = 119
 ·subst e119
  simp only [fu100, Try.f100, Option.getD_some, List.replicate, tyr, fgr, bor, cel, newRow, Nat.reduceSub, Nat.beq, Int.reduceEq, buildSlice, reps, fill, List.take_zero, List.drop_succ_cons, List.drop_zero, Nat.ble, Nat.one_mul, if119, ix119, gE]
  exact ⟨_, rfl, row_rds (upd_same _ _ _) rfl, fun j hj => by injection hj with hj; omega, fun j hj => upd_ne _ _ (by omega)⟩
 by_cases e120 : c = 120
 ·subst e120
  simp only [fu100, Try.f100, Option.getD_some, List.replicate, tyr, fgr, bor, cel, newRow, Nat.reduceAdd, Nat.reduceSub, Nat.beq, Int.reduceEq, buildSlice, reps, fill, List.take_succ_cons, List.take_zero, List.drop_succ_cons, List.drop_zero, Nat.ble, Nat.mul_one, Nat.one_mul, if120, ix120, gE]
  exact ⟨_, rfl, row_rds (upd_same _ _ _) rfl, fun j hj => by injection hj with hj; omega, fun j hj => upd_ne _ _ (by omega)⟩
 by_cases e123 : c = 123
 ·subst e123
  simp only [fu100, Try.f100, Option.getD_some, List.replicate, tyr, fgr, bor, cel, newRow, Nat.reduceAdd, Nat.reduceSub, Nat.beq, Int.reduceEq, buildSlice, reps, fill, List.take_succ_cons, List.take_zero, List.drop_succ_cons, List.drop_zero, Nat.ble, Nat.mul_one, Nat.one_mul, if123, ix123, gE]
  exact ⟨_, rfl, row_rds (upd_same _ _ _) rfl, fun j hj => by injection hj with hj; omega, fun j hj => upd_ne _ _ (by omega)⟩
 by_cases e124 : c = 124
 ·subst e124
  simp only [fu100, Try.f100, Option.getD_some, List.replicate, tyr, fgr, bor, cel, newRow, Nat.reduceAdd, Nat.reduceSub, Nat.beq, Int.reduceEq, buildSlice, reps, fill, List.take_succ_cons, List.take_zero, List.drop_succ_cons, List.drop_zero, Nat.ble, Nat.one_mul, if124, ix124, gE]
  exact ⟨_, rfl, row_rds (upd_same _ _ _) rfl, fun j hj => by injection hj with hj; omega, fun j hj => upd_ne _ _ (by omega)⟩
 by_cases e125 : c = 125
 ·subst e125
  simp only [fu100, Try.f100, Option.getD_some, List.replicate, tyr, fgr, bor, cel, newRow, Nat.reduceAdd, Nat.reduceSub, Nat.beq, Int.reduceEq, buildSlice, reps, fill, List.take_succ_cons, List.take_zero, List.drop_succ_cons, List.drop_zero, Nat.ble, Nat.mul_one, Nat.one_mul, if125, ix125, gE]
  exact ⟨_, rfl, row_rds (upd_same _ _ _) rfl, fun j hj => by injection hj with hj; omega, fun j hj => upd_ne _ _ (by omega)⟩
 have hn := ixN (frN e109 e110 e111 e112 e113 e114 e117 e118 e119 e120 e123 e124 e125)
 simp only [fu100, Try.f100, Option.getD_some, List.replicate, fgr, bor, Nat.reduceSub, hn.1, hn.2.2.2, e109, e110, e111, e112, e113, e114, e117, e118, e119, e120, e123, e124, e125, gE]
 exact ⟨_, rfl, .nils, fun j hj => (by cases hj), Old.refl _ _⟩
theorem f79 (h : Hp) (n : Nat) (c : Int) : Wp (callI env (evalW env) 79 [.int .u8 c]) h n fun v' h' n' => v' = .tup [.str (fA c), .str (fB c)] ∧ h' = h ∧ n' = n := by
 refine wp_callI ff79 fi79 ?_
 by_cases e109 : c = 109
 ·subst e109
  simp only [fu79, Try.f79, Option.getD_some, List.replicate, fgr, bor, Nat.reduceSub, fA109, fB109, gE]
 by_cases e110 : c = 110
 ·subst e110
  simp only [fu79, Try.f79, Option.getD_some, List.replicate, fgr, bor, Nat.reduceSub, Int.reduceEq, fA110, fB110, gE]
 by_cases e111 : c = 111
 ·subst e111
  simp only [fu79, Try.f79, Option.getD_some, List.replicate, fgr, bor, Nat.reduceSub, Int.reduceEq, fA111, fB111, gE]
 by_cases e112 : c = 112
 ·subst e112
  simp only [fu79, Try.f79, Option.getD_some, List.replicate, fgr, bor, Nat.reduceSub, Int.reduceEq, fA112, fB112, gE]
 by_cases e113 : c = 113
 ·subst e113
  simp only [fu79, Try.f79, Option.getD_some, List.replicate, fgr, bor, Nat.reduceSub, Int.reduceEq, fA113, fB113, gE]
 by_cases e114 : c = 114
 ·subst e114
  simp only [fu79, Try.f79, Option.getD_some, List.replicate, fgr, bor, Nat.reduceSub, Int.reduceEq, fA114, fB114, gE]
 by_cases e117 : c = 117
 ·subst e117
  simp only [fu79, Try.f79, Option.getD_some, List.replicate, fgr, bor, Nat.reduceSub, Int.reduceEq, fA117, fB117, gE]
 by_cases e118 : c = 118
 ·subst e118
  simp only [fu79, Try.f79, Option.getD_some, List.replicate, fgr, bor, Nat.reduceSub, Int.reduceEq, fA118, fB118, gE]
 by_cases e119 : c = 119
 ·subst e119
  simp only [fu79, Try.f79, Option.getD_some, List.replicate, fgr, bor, Nat.reduceSub, Int.reduceEq, fA119, fB119, gE]
 by_cases e120 : c = 120
 ·subst e120
  simp only [fu79, Try.f79, Option.getD_some, List.replicate, fgr, bor, Nat.reduceSub, Int.reduceEq, fA120, fB120, gE]
 by_cases e123 : c = 123
 ·subst e123
  simp only [fu79, Try.f79, Option.getD_some, List.replicate, fgr, bor, Nat.reduceSub, Int.reduceEq, fA123, fB123, gE]
 by_cases e124 : c = 124
 ·subst e124
  simp only [fu79, Try.f79, Option.getD_some, List.replicate, fgr, bor, Nat.reduceSub, Int.reduceEq, fA124, fB124, gE]
 by_cases e125 : c = 125
 ·subst e125
  simp only [fu79, Try.f79, Option.getD_some, List.replicate, fgr, bor, Nat.reduceSub, Int.reduceEq, fA125, fB125, gE]
 have hn := ixN (frN e109 e110 e111 e112 e113 e114 e117 e118 e119 e120 e123 e124 e125)
 simp only [fu79, Try.f79, Option.getD_some, List.replicate, fgr, bor, Nat.reduceSub, hn.2.1, hn.2.2.1, e109, e110, e111, e112, e113, e114, e117, e118, e119, e120, e123, e124, e125, gE]
def c79 (h : Hp) (n : Nat) (c : Int) := opv_det (f79 h n c)
theorem f49 (h : Hp) (n : Nat) (c : Int) : Wp (callI env (evalW env) 49 [.int .u8 c]) h n fun v' h' n' => v' = .bool (decide (0 ≤ leastV c)) ∧ h' = h ∧ n' = n := by
 refine wp_callI ff49 fi49 ?_
 by_cases e109 : c = 109
 ·subst e109
  simp only [fu49, Try.f49, Option.getD_some, List.replicate, fgr, hkr, bor, strOp, doPick, Nat.reduceSub, Int.reduceLE, reduceCtorEq, c79, fA109, lv109, gE]
 by_cases e110 : c = 110
 ·subst e110
  simp only [fu49, Try.f49, Option.getD_some, List.replicate, fgr, hkr, bor, strOp, doPick, Nat.reduceSub, Int.reduceLE, reduceCtorEq, c79, fA110, lv110, gE]
 by_cases e111 : c = 111
 ·subst e111
  simp only [fu49, Try.f49, Option.getD_some, List.replicate, fgr, hkr, bor, strOp, doPick, Nat.reduceSub, Int.reduceLE, reduceCtorEq, c79, fA111, lv111, gE]
 by_cases e112 : c = 112
 ·subst e112
  simp only [fu49, Try.f49, Option.getD_some, List.replicate, fgr, hkr, bor, strOp, doPick, Nat.reduceSub, Int.reduceLE, reduceCtorEq, c79, fA112, lv112, gE]
 by_cases e113 : c = 113
 ·subst e113
  simp only [fu49, Try.f49, Option.getD_some, List.replicate, fgr, hkr, bor, strOp, doPick, Nat.reduceSub, Int.reduceLE, reduceCtorEq, c79, fA113, lv113, gE]
 by_cases e114 : c = 114
 ·subst e114
  simp only [fu49, Try.f49, Option.getD_some, List.replicate, fgr, hkr, bor, strOp, doPick, Nat.reduceSub, Int.reduceLE, reduceCtorEq, c79, fA114, lv114, gE]
 by_cases e117 : c = 117
 ·subst e117
  simp only [fu49, Try.f49, Option.getD_some, List.replicate, fgr, hkr, bor, strOp, doPick, Nat.reduceSub, Int.reduceLE, reduceCtorEq, c79, fA117, lv117, gE]
 by_cases e118 : c = 118
 ·subst e118
  simp only [fu49, Try.f49, Option.getD_some, List.replicate, fgr, hkr, bor, strOp, doPick, Nat.reduceSub, Int.reduceLE, reduceCtorEq, c79, fA118, lv118, gE]
 by_cases e119 : c = 119
 ·subst e119
  simp only [fu49, Try.f49, Option.getD_some, List.replicate, fgr, hkr, bor, strOp, doPick, Nat.reduceSub, Int.reduceLE, reduceCtorEq, c79, fA119, lv119, gE]
 by_cases e120 : c = 120
 ·subst e120
  simp only [fu49, Try.f49, Option.getD_some, List.replicate, fgr, hkr, bor, strOp, doPick, Nat.reduceSub, Int.reduceLE, reduceCtorEq, c79, fA120, lv120, gE]
 by_cases e123 : c = 123
 ·subst e123
  simp only [fu49, Try.f49, Option.getD_some, List.replicate, fgr, hkr, bor, strOp, doPick, Nat.reduceSub, Int.reduceLE, reduceCtorEq, c79, fA123, lv123, gE]
 by_cases e124 : c = 124
 ·subst e124
  simp only [fu49, Try.f49, Option.getD_some, List.replicate, fgr, hkr, bor, strOp, doPick, Nat.reduceSub, Int.reduceLE, reduceCtorEq, c79, fA124, lv124, gE]
 by_cases e125 : c = 125
 ·subst e125
  simp only [fu49, Try.f49, Option.getD_some, List.replicate, fgr, hkr, bor, strOp, doPick, Nat.reduceSub, Int.reduceLE, reduceCtorEq, c79, fA125, lv125, gE]
 by_cases e116 : c = 116
 ·subst e116
  have hA : fA 116 = [] := by decide
  simp only [fu49, Try.f49, Option.getD_some, List.replicate, fgr, hkr, bor, strOp, doPick, Nat.reduceSub, Int.reduceEq, Int.reduceLE, c79, lv116, hA, gE]
 by_cases e108 : c = 108
 ·subst e108
  have hA : fA 108 = [] := by decide
  simp only [fu49, Try.f49, Option.getD_some, List.replicate, fgr, hkr, bor, strOp, doPick, Nat.reduceSub, Int.reduceEq, Int.reduceLE, c79, lv108, hA, gE]
 by_cases e115 : c = 115
 ·subst e115
  have hA : fA 115 = [] := by decide
  simp only [fu49, Try.f49, Option.getD_some, List.replicate, fgr, hkr, bor, strOp, doPick, Nat.reduceSub, Int.reduceEq, Int.reduceLE, c79, lv115, hA, gE]
 by_cases e130 : c = 130
 ·subst e130
  have hA : fA 130 = [] := by decide
  simp only [fu49, Try.f49, Option.getD_some, List.replicate, fgr, hkr, bor, strOp, doPick, Nat.reduceSub, Int.reduceEq, Int.reduceLE, c79, lv130, hA, gE]
 by_cases e107 : c = 107
 ·subst e107
  have hA : fA 107 = [] := by decide
  simp only [fu49, Try.f49, Option.getD_some, List.replicate, fgr, hkr, bor, strOp, doPick, Nat.reduceSub, Int.reduceLE, c79, lv107, hA, gE]
 by_cases e121 : c = 121
 ·subst e121
  have hA : fA 121 = [] := by decide
  simp only [fu49, Try.f49, Option.getD_some, List.replicate, fgr, hkr, bor, strOp, doPick, Nat.reduceSub, Int.reduceEq, Int.reduceLE, c79, lv121, hA, gE]
 by_cases e122 : c = 122
 ·subst e122
  have hA : fA 122 = [] := by decide
  simp only [fu49, Try.f49, Option.getD_some, List.replicate, fgr, hkr, bor, strOp, doPick, Nat.reduceSub, Int.reduceEq, Int.reduceLE, c79, lv122, hA, gE]
 have hn := frN e109 e110 e111 e112 e113 e114 e117 e118 e119 e120 e123 e124 e125
 have hl := lvN hn e116 e108 e115 e130 e107 e121 e122
 have hA := (ixN hn).2.1
 simp only [fu49, Try.f49, Option.getD_some, List.replicate, fgr, hkr, bor, strOp, doPick, Nat.reduceSub, Int.reduceLE, Int.reduceNeg, c79, hl, hA, e116, e108, e115, e130, e107, e121, e122, gE]
def c49 (h : Hp) (n : Nat) (c : Int) := opv_det (f49 h n c)
structure Ch2 (h : Hp) (n : Nat) (M : Nat → Prop) (h' : Hp) (n' : Nat) (M' : Nat → Prop) : Prop where
 nx : n ≤ n'
 fr : Free h' n'
 m' : ∀ j, M' j → M j ∨ n ≤ j
 old : ∀ j, j < n → ¬ M j → h' j = h j
theorem Ch2.trans {h h1 h2 : Hp} {n n1 n2 : Nat} {M M1 M2 : Nat → Prop} (a : Ch2 h n M h1 n1 M1) (b : Ch2 h1 n1 M1 h2 n2 M2) : Ch2 h n M h2 n2 M2 where
 nx := Nat.le_trans a.nx b.nx
 fr := b.fr
 m' := fun j hj => (b.m' j hj).elim (a.m' j) (fun q => .inr (Nat.le_trans a.nx q))
 old := fun j hj hm => by
  rw [b.old j (by have := a.nx; omega) (fun q => by
   rcases a.m' j q with q | q
   ·exact hm q
   ·omega)]
  exact a.old j hj hm
theorem Ch2.of {h h' : Hp} {n n' : Nat} {M : Nat → Prop} (hf : Free h' n') (hn : n ≤ n') (ho : Old h h' n) : Ch2 h n M h' n' M := ⟨hn, hf, fun _ h => .inl h, fun j hj _ => ho j hj⟩
theorem Chg.ch2 {h h' : Hp} {n n' : Nat} {D D' M M' : Nat → Prop} (c : Chg h n D M h' n' D' M') : Ch2 h n M h' n' M' := ⟨c.nx, c.fr, c.m', c.old⟩
theorem Ch2.chg {h h' : Hp} {n n' : Nat} {D D' M M' : Nat → Prop} (c : Ch2 h n M h' n' M') (h1 : ∀ j, D j → D' j) (h2 : ∀ j, D' j → D j ∨ n ≤ j) : Chg h n D M h' n' D' M' := ⟨c.nx, c.fr, h1, h2, c.m', c.old⟩
theorem Stk.same {h : Hp} {n : Nat} {D D' M : Nat → Prop} {p : Nat} {ls os : List (List UInt8)} (s : Stk h n D M p ls os) (hd : ∀ j, D j ↔ D' j) : Stk h n D' M p ls os := by
 have : D = D' := funext fun j => propext (hd j)
 rw [← this]; exact s
theorem put0 (p k : Nat) (x : AVal) (ys : List AVal) (ms ls os : List (List UInt8)) (D M E : Nat → Prop) (h : Hp) (n : Nat) (hs : Stk h n D M p ls os) (hx : Rds h 1 x k ys) (hys : Els h E ys ms) (hE : ∀ j, E j → j < n ∧ ¬ M j) (hk : ls.length + k ≤ 100000) (hf : Free h n) :
  Wp (callI env (evalW env) 63 [.ptr p 0, x]) h n fun v' h' n' => v' = .tup [] ∧ ∃ M', Stk h' n' (fun j => D j ∨ E j) M' p (ls ++ ms) os ∧ Ch2 h n M h' n' M' := by
 obtain ⟨vl, vo, xl, xo, sv, mp, ml, mo, mn⟩ := hs
 have hkm : k = ms.length := by have := hx.length; have := hys.len; omega
 refine wp_mono (f63 p 0 vl x [vl, vo] ls.length k xl ys h n sv.row rfl sv.l hx hys.cells sv.pn (fun q => (sv.lp p q).1 rfl) hk hf) fun v4 h4 n4 ⟨e4, s', l4, r4', i4, o4, f4, hn4⟩ => ?_
 have sv' := sv.more (D' := fun j => D j ∨ E j) (fun j q => .inl q) (fun j q => q.elim (sv.dn j) (fun q => (hE j q).1)) (fun j q => q.elim
  (fun q => ⟨fun e => sv.pd (by rw [← e]; exact q), fun e => (sv.lp j e).2 q, fun e => (sv.op j e).2.1 q⟩)
  (fun q => ⟨fun e => (hE j q).2 (by rw [e]; exact mp), fun e => (hE j q).2 (ml j e), fun e => (hE j q).2 (mo j e)⟩))
 subst hkm
 obtain ⟨M', hs4, ch4⟩ := put_stk (ms := ms) sv' mp ml mo (fun j hj => ⟨(mn j hj).1, fun q => q.elim (mn j hj).2 (fun q => (hE j q).2 hj)⟩) l4 r4' i4 o4 f4 hn4
  (hys.mono (fun j q => .inr q) (fun j q => o4 j (hE j q).1 (fun e => (hE j q).2 (by rw [e]; exact mp)) (fun e => (hE j q).2 (ml j e)))) trivial
 exact ⟨e4, M', hs4, ch4.ch2⟩
theorem put1 (p k : Nat) (x : AVal) (ys : List AVal) (ms ls os : List (List UInt8)) (D M E : Nat → Prop) (h : Hp) (n : Nat) (hs : Stk h n D M p ls os) (hx : Rds h 1 x k ys) (hys : Els h E ys ms) (hE : ∀ j, E j → j < n ∧ ¬ M j) (hk : os.length + k ≤ 100000) (hf : Free h n) :
  Wp (callI env (evalW env) 63 [.ptr p 1, x]) h n fun v' h' n' => v' = .tup [] ∧ ∃ M', Stk h' n' (fun j => D j ∨ E j) M' p ls (os ++ ms) ∧ Ch2 h n M h' n' M' := by
 obtain ⟨vl, vo, xl, xo, sv, mp, ml, mo, mn⟩ := hs
 have hkm : k = ms.length := by have := hx.length; have := hys.len; omega
 refine wp_mono (f63 p 1 vo x [vl, vo] os.length k xo ys h n sv.row rfl sv.o hx hys.cells sv.pn (fun q => (sv.op p q).1 rfl) hk hf) fun v4 h4 n4 ⟨e4, s', l4, r4', i4, o4, f4, hn4⟩ => ?_
 subst hkm
 have hD : ∀ j, D j ∨ E j → h4 j = h j := fun j q => q.elim (fun q => o4 j (sv.dn j q) (fun e => sv.pd (by rw [← e]; exact q)) (fun e => (sv.op j e).2.1 q)) (fun q => o4 j (hE j q).1 (fun e => (hE j q).2 (by rw [e]; exact mp)) (fun e => (hE j q).2 (mo j e)))
 have hvl : ∀ j, ownId vl = some j → h4 j = h j := fun j q => o4 j (mn j (ml j q)).1 (sv.lp j q).1 (fun e => (sv.op j e).2.2 q)
 have hnew : ∀ j, ownId s' = some j → (ownId vo = some j) ∨ (j = n ∧ n < n4) := fun j q => i4.elim (fun e => .inl (by rw [← e]; exact q)) (fun e => .inr (by rw [e.1] at q; injection q with q; exact ⟨q.symm, e.2⟩))
 have hsn : ∀ j, ownId s' = some j → j < n4 := fun j q => (hnew j q).elim (fun e => by have := (mn j (mo j e)).1; omega) (fun e => by omega)
 have hsd : ∀ j, ownId s' = some j → j ≠ p ∧ ¬ (D j ∨ E j) ∧ ownId vl ≠ some j := fun j q => by
  rcases hnew j q with e | ⟨e, e2⟩
  ·exact ⟨(sv.op j e).1, fun w => w.elim (sv.op j e).2.1 (fun w => (hE j w).2 (mo j e)), (sv.op j e).2.2⟩
  ·subst e
   exact ⟨fun w => by have := sv.pn; omega, fun w => w.elim (fun w => by have := sv.dn _ w; omega) (fun w => by have := (hE _ w).1; omega), fun w => by have := (mn _ (ml _ w)).1; omega⟩
 refine ⟨e4, fun j => j = p ∨ ownId vl = some j ∨ ownId s' = some j, ⟨vl, s', xl, xo ++ ys, ⟨r4', sv.l.keep hvl, sv.le.mono (fun j q => .inl q) (fun j q => hD j (.inl q)), by rw [List.length_append]; exact l4, ((sv.oe.mono (fun j q => .inl q) (fun j q => hD j (.inl q))).app (hys.mono (fun j q => .inr q) (fun j q => hD j (.inr q)))), by have := sv.pn; omega, fun j q => q.elim (fun q => by have := sv.dn j q; omega) (fun q => by have := (hE j q).1; omega), fun q => q.elim sv.pd (fun q => (hE p q).2 mp), fun j q => ⟨(sv.lp j q).1, fun w => w.elim (sv.lp j q).2 (fun w => (hE j w).2 (ml j q))⟩, hsd⟩, .inl rfl, fun j q => .inr (.inl q), fun j q => .inr (.inr q), fun j q => ?_⟩, ⟨hn4, f4, fun j q => ?_, fun j hj hm => o4 j hj (fun e => hm (by rw [e]; exact mp)) (fun e => hm (mo j e))⟩⟩
 ·rcases q with q | q | q
  ·subst q; exact ⟨by have := sv.pn; omega, fun w => w.elim sv.pd (fun w => (hE _ w).2 mp)⟩
  ·exact ⟨by have := (mn j (ml j q)).1; omega, fun w => w.elim (sv.lp j q).2 (fun w => (hE j w).2 (ml j q))⟩
  ·exact ⟨hsn j q, (hsd j q).2.1⟩
 ·rcases q with q | q | q
  ·rw [q]; exact .inl mp
  ·exact .inl (ml j q)
  ·rcases hnew j q with e | ⟨e, _⟩
   ·exact .inl (mo j e)
   ·exact .inr (by omega)
theorem cut0 (p k : Nat) (ls os : List (List UInt8)) (D M : Nat → Prop) (h : Hp) (n : Nat) (hs : Stk h n D M p ls os) (hk : k ≤ ls.length) (hl : ls.length ≤ 100000) (hf : Free h n) :
  Wp (callI env (evalW env) 72 [.ptr p 0, .int .i64 (k : Nat)]) h n fun v' h' n' => ∃ ys, Lst h' 22 1 v' k ys ∧ Els h' D ys (ls.drop (ls.length - k)) ∧ (∀ j, ownId v' = some j → n ≤ j ∧ j < n') ∧ Stk h' n' D M p (ls.take (ls.length - k)) os ∧ Ch2 h n M h' n' M := by
 obtain ⟨vl, vo, xl, xo, sv, mp, ml, mo, mn⟩ := hs
 refine wp_mono (f72 p 0 k vl [vl, vo] ls.length xl h n sv.row rfl sv.l sv.le.cells sv.pn (fun q => (sv.lp p q).1 rfl) hk hl hf) fun v2 h2 n2 ⟨l2, i2, r2, c2, o2, f2, hn2⟩ => ?_
 exact ⟨_, l2, (sv.le.drop _).mono (fun _ q => q) (fun j q => o2 j (sv.dn j q) (fun e => sv.pd (by rw [← e]; exact q))), i2, cut_stk sv k hk mp ml mo mn r2 c2 o2 hn2, ⟨hn2, f2, fun _ q => .inl q, fun j hj hm => o2 j hj (fun e => hm (by rw [e]; exact mp))⟩⟩
theorem cut1 (p k : Nat) (ls os : List (List UInt8)) (D M : Nat → Prop) (h : Hp) (n : Nat) (hs : Stk h n D M p ls os) (hk : k ≤ os.length) (hl : os.length ≤ 100000) (hf : Free h n) :
  Wp (callI env (evalW env) 72 [.ptr p 1, .int .i64 (k : Nat)]) h n fun v' h' n' => ∃ ys, Lst h' 22 1 v' k ys ∧ Els h' D ys (os.drop (os.length - k)) ∧ (∀ j, ownId v' = some j → n ≤ j ∧ j < n') ∧ Stk h' n' D M p ls (os.take (os.length - k)) ∧ Ch2 h n M h' n' M := by
 obtain ⟨vl, vo, xl, xo, sv, mp, ml, mo, mn⟩ := hs
 refine wp_mono (f72 p 1 k vo [vl, vo] os.length xo h n sv.row rfl sv.o sv.oe.cells sv.pn (fun q => (sv.op p q).1 rfl) hk hl hf) fun v2 h2 n2 ⟨l2, i2, r2, c2, o2, f2, hn2⟩ => ?_
 have hd : ∀ j, D j → h2 j = h j := fun j q => o2 j (sv.dn j q) (fun e => sv.pd (by rw [← e]; exact q))
 refine ⟨_, l2, (sv.oe.drop _).mono (fun _ q => q) hd, i2, ⟨vl, _, xl, _, ⟨r2, sv.l.keep fun j hj => o2 j (mn j (ml j hj)).1 (sv.lp j hj).1, sv.le.mono (fun _ h => h) hd, by rw [List.length_take, Nat.min_eq_left (by omega)]; exact c2, (sv.oe.take _).mono (fun _ h => h) hd, by have := sv.pn; omega, fun j hj => by have := sv.dn j hj; omega, sv.pd, sv.lp, fun j hj => ?_⟩, mp, ml, fun j hj => ?_, fun j hj => ⟨by have := (mn j hj).1; omega, (mn j hj).2⟩⟩, ⟨hn2, f2, fun _ q => .inl q, fun j hj hm => o2 j hj (fun e => hm (by rw [e]; exact mp))⟩⟩
 ·rw [cut_id] at hj; exact sv.op j hj
 ·rw [cut_id] at hj; exact mo j hj
theorem Stk.d {h : Hp} {n : Nat} {D M : Nat → Prop} {p : Nat} {ls os : List (List UInt8)} (s : Stk h n D M p ls os) : ∀ j, D j → j < n ∧ ¬ M j := fun j hj => by
 obtain ⟨vl, vo, xl, xo, sv, mp, ml, mo, mn⟩ := s
 exact ⟨sv.dn j hj, fun q => (mn j q).2 hj⟩
theorem Stk.m {h : Hp} {n : Nat} {D M : Nat → Prop} {p : Nat} {ls os : List (List UInt8)} (s : Stk h n D M p ls os) : ∀ j, M j → j < n ∧ ¬ D j := by
 obtain ⟨vl, vo, xl, xo, sv, mp, ml, mo, mn⟩ := s
 exact mn
theorem Stk.p {h : Hp} {n : Nat} {D M : Nat → Prop} {p : Nat} {ls os : List (List UInt8)} (s : Stk h n D M p ls os) : M p ∧ p < n := by
 obtain ⟨vl, vo, xl, xo, sv, mp, ml, mo, mn⟩ := s
 exact ⟨mp, sv.pn⟩
def top (ls : List (List UInt8)) : List UInt8 := topL ls 0
def numE (ls : List (List UInt8)) : Int := if ls = [] then 120 else decE (top ls)
def numV (ls : List (List UInt8)) : Int := if ls = [] then 0 else decN (top ls)
def numL (ls : List (List UInt8)) : List (List UInt8) := if numE ls = 0 then popL ls else ls
theorem decE_cases (l : List UInt8) : decE l = 0 ∨ (decE l = 110 ∧ decN l = 0) := by
 unfold decE decN
 cases decB l
 ·exact .inr ⟨rfl, rfl⟩
 ·exact .inl rfl
theorem topE0 {ls : List (List UInt8)} (h : ls ≠ []) : topE ls 0 = 0 := if_pos (by have := List.length_pos_iff.2 h; omega)
theorem top_mem {ls : List (List UInt8)} (k : Int) : topL ls k ∈ ls ∨ topL ls k = [] := by
 unfold topL
 split
 ·rename_i h
  refine .inl ?_
  rw [List.getD_eq_getElem?_getD, List.getElem?_eq_getElem (by omega)]
  exact List.getElem_mem _
 ·exact .inr rfl
theorem top_len {ls : List (List UInt8)} {m : Nat} (hel : ∀ l ∈ ls, l.length ≤ m) (k : Int) : (topL ls k).length ≤ m := by
 rcases top_mem (ls := ls) k with h | h
 ·exact hel _ h
 ·rw [h]; exact Nat.zero_le _
theorem f53 (p : Nat) (ls os : List (List UInt8)) (D M : Nat → Prop) (h : Hp) (n : Nat) (hs : Stk h n D M p ls os) (hl : ls.length ≤ 100000) (hel : ∀ l ∈ ls, l.length ≤ 900000) (hf : Free h n) :
  Wp (callI env (evalW env) 53 [.ptr p 0]) h n fun v' h' n' => v' = .tup [.int .i64 (numV ls), .int .i64 (numE ls)] ∧ Stk h' n' D M p (numL ls) os ∧ Ch2 h n M h' n' M := by
 refine wp_callI ff53 fi53 ?_
 simp only [fu53, Try.f53, Option.getD_some, List.replicate, fgr, hkr, Nat.reduceSub, gE]
 refine opv_callf hf (f43 p 0 ls os D M h n hs hl (fun l hl => by have := hel l hl; omega) hf) fun v1 h1 n1 hn1 f1 ⟨s, e1, b1, i1, o1⟩ => ?_
 subst e1
 have hs1 := hs.old hn1 o1
 by_cases c : ls = []
 ·subst c
  have ce : topE [] 0 = 120 := rfl
  simp only [fgr, bor, Int.reduceEq, ce, gE]
  exact ⟨rfl, hs1, .of f1 hn1 o1⟩
 have hE : numE ls = decE (top ls) := if_neg c
 have hV : numV ls = decN (top ls) := if_neg c
 simp only [fgr, hkr, bor, topE0 c, gE]
 have htl := top_len (m := 900000) hel 0
 have hbel : Below0 n1 s := by
  cases s <;> first | trivial | (exact (i1 _ rfl).2)
 refine opv_callf f1 (f18 s (topL ls 0) h1 n1 b1 hbel (by omega)) fun v2 h2 n2 hn2 f2 ⟨e2, o2⟩ => ?_
 subst e2
 have hs2 := hs1.old hn2 o2
 have o12 : Old h h2 n := fun j hj => (o2 j (by omega)).trans (o1 j hj)
 rcases decE_cases (topL ls 0) with d | ⟨d, d2⟩
 ·have d' : decE (top ls) = 0 := d
  simp only [tyr, fgr, hkr, bor, moved, d, gE]
  refine opv_callf f2 (cut0 p 1 ls os D M h2 n2 hs2 (by have := List.length_pos_iff.2 c; omega) hl f2) fun v3 h3 n3 hn3 f3 ⟨ys, l3, e3, i3, s3, c3⟩ => ?_
  simp only [fgr, gE]
  refine ⟨by rw [hV, hE, d']; rfl, ?_, (Ch2.of f2 (by omega) o12).trans c3⟩
  unfold numL
  rw [hE, d', if_pos rfl]; exact s3
 ·have d' : decE (top ls) = 110 := d
  simp only [fgr, bor, Int.reduceEq, d, gE]
  refine ⟨by rw [hV, hE, d']; rfl, ?_, .of f2 (by omega) o12⟩
  unfold numL
  rw [hE, d', if_neg (by decide)]; exact hs2
def MadeN (h : Hp) (n : Nat) (l : List UInt8) (v : AVal) (h' : Hp) (n' : Nat) : Prop := Bytes h' v l ∧ (∀ j, ownId v = some j → n ≤ j ∧ j < n') ∧ Old h h' n
theorem f54n (x : Int) (h1 : -9223372036854775808 < x) (h2 : x ≤ 9223372036854775807) (h : Hp) (n : Nat) : Wp (callI env (evalW env) 54 [.int .i64 x]) h n (MadeN h n (fmB x)) := by
 obtain ⟨neg, m, e1, e2, e3, e4⟩ := sv_of x
 have := f54 neg m (by omega) e2 h n
 rw [← e1, e3, e4] at this
 exact wp_mono this fun v h' n' ⟨cnt, a, b, c⟩ => ⟨a.bytes, fun j hj => ⟨b j hj, a.id_lt hj⟩, c⟩
theorem f56n (x : Int) (h1 : -9223372036854775808 < x) (h2 : x ≤ 9223372036854775807) (h : Hp) (n : Nat) : Wp (callI env (evalW env) 56 [.int .i64 x]) h n (MadeN h n (fmB x)) := by
 obtain ⟨neg, m, e1, e2, e3, e4⟩ := sv_of x
 have := f56a neg m (by omega) e2 h n
 rw [← e1, e3, e4] at this
 exact wp_mono this fun v h' n' ⟨cnt, a, b, c⟩ => ⟨a.bytes, fun j hj => ⟨b j hj, a.id_lt hj⟩, c⟩
theorem f17r (x : Int) (h1 : -9223372036854775808 ≤ x) (h2 : x ≤ 9223372036854775807) (h : Hp) (n : Nat) : Wp (callI env (evalW env) 17 [.int .i64 x]) h n fun v h' n' => ∃ s, v = .tup [s, .int .i64 (encE x)] ∧ MadeN h n (encL x) s h' n' := by
 refine wp_callI ff17 fi17 ?_
 by_cases e1 : x ≤ -549755813888
 ·have hw : wideB x = true := by simp [wideB, e1]
  simp only [fu17, Try.f17, Option.getD_some, List.replicate, fgr, bor, doPick, Nat.reduceSub, Int.reduceNeg, e1, encL, encE, hw, gE]
  exact ⟨.nils, rfl, .nils, fun j hj => (by cases hj), Old.refl _ _⟩
 ·by_cases e2 : 549755813888 ≤ x
  ·have hw : wideB x = true := by simp [wideB, e2]
   simp only [fu17, Try.f17, Option.getD_some, List.replicate, fgr, bor, doPick, Nat.reduceSub, Int.reduceNeg, ge_iff_le, e1, e2, encL, encE, hw, gE]
   exact ⟨.nils, rfl, .nils, fun j hj => (by cases hj), Old.refl _ _⟩
  ·have hw : wideB x = false := by simp [wideB, e1, e2]
   simp only [fu17, Try.f17, Option.getD_some, List.replicate, fgr, hkr, bor, doPick, Nat.reduceSub, Int.reduceNeg, ge_iff_le, e1, e2, encL, encE, hw, gE]
   refine opv_call (f54n x (by omega) (by omega) h n) fun v h' n' hn hv => ?_
   simp only [fgr, gE]
   exact ⟨v, rfl, hv⟩
theorem or_idem {D : Nat → Prop} (j : Nat) : D j ∨ D j ↔ D j := ⟨fun q => q.elim id id, .inl⟩
theorem f101 (p k : Nat) (ls os : List (List UInt8)) (D M : Nat → Prop) (h : Hp) (n : Nat) (hs : Stk h n D M p ls os) (hl : ls.length ≤ 10000) (hk : k ≤ 1000000000) (hf : Free h n) :
  Wp (callI env (evalW env) 101 [.ptr p 0, .int .i64 (k : Nat)]) h n fun v' h' n' => ∃ D' M', Stk h' n' D' M' p (ls ++ [encL (k : Nat)]) os ∧ Chg h n D M h' n' D' M' := by
 refine wp_callI ff101 fi101 ?_
 simp only [fu101, Try.f101, Option.getD_some, List.replicate, hkr, Nat.reduceAdd, Nat.reduceSub, gE]
 refine opv_callf hf (f17r (k : Nat) (by omega) (by omega) h n) fun v1 h1 n1 hn1 f1 ⟨s, e1, b1, i1, o1⟩ => ?_
 subst e1
 simp only [tyr, fgr, moved, gE]
 rw [bs22 s b1.kind]
 refine opv_row ti22 f1 fun h2 g2 o2 f2 => ?_
 have b2 : Bytes h2 s (encL (k : Nat)) := b1.keep fun j hj => o2 j (by have := (i1 j hj).2; omega)
 have old2 : Old h h2 n := fun j hj => by rw [o2 j (by omega), o1 j hj]
 have hs2 := hs.old (n' := n1 + 1) (by omega) old2
 simp only [hkr, gE]
 refine opv_callf f2 (put0 p 1 _ [s] [encL (k : Nat)] ls os D M (fun j => ownId s = some j) h2 (n1 + 1) hs2 (row_rds g2 rfl) (Els.one ⟨b2, fun j q => q⟩) (fun j q => ⟨by have := (i1 j q).2; omega, fun w => by have := (i1 j q).1; have := (hs.m j w).1; omega⟩) (by omega) f2) fun v3 h3 n3 hn3 f3 ⟨e3, M', s3, c3⟩ => ?_
 subst e3
 simp only [core1, fgr, putT, put, forgetL, true_and]
 exact ⟨_, M', s3, ((Ch2.of f2 (by omega) old2).trans c3).chg (fun j q => .inl q) (fun j q => q.elim .inl (fun q => .inr (i1 j q).1))⟩
theorem f106 (id i cnt : Nat) (cap : Option Nat) (cells : List AVal) (h : Hp) (n : Nat) (hh : h id = some (.row (.l cells) 22)) (hi : i < cnt) (hl : cnt ≤ cells.length) (hcap : ∀ k, cap = some k → cnt ≤ k ∧ k ≤ cells.length) (hone : (cells.take cnt).all oneCell = true) (hc : cnt ≤ 100000) (hid : id < n) (hf : Free h n) :
  Wp (callI env (evalW env) 106 [.sl id 0 cnt cap 1, .int .i64 (i : Nat), .int .i64 ((i + 1 : Nat) : Int)]) h n fun v' h' n' => ∃ v2, v' = v2 ∧ Lst h' 22 1 v2 (cnt - 1) ((cells.take cnt).take i ++ (cells.take cnt).drop (i + 1)) ∧ ownId v2 = some id ∧ (∀ j, j ≠ id → h' j = h j) ∧ n' = n := by
 refine wp_callI ff106 fi106 ?_
 have hL : Lst h 22 1 (.sl id 0 cnt cap 1) cnt (cells.take cnt) := by
  have := Lst.sl (h := h) (e := 22) (sz := 1) id cnt cap cells _ hh (by omega) (fun k hk => by have := hcap k hk; omega) rfl
  rwa [Nat.mul_one] at this
 have ne : ¬ ((i : Nat) : Int) = ((i + 1 : Nat) : Int) := by omega
 have hb : ((cnt : Nat) : Int) ≤ ((cap.getD cnt : Nat) : Int) := by
  cases cap with
  | none => simp only [Option.getD_none]; omega
  | some c => have := (hcap c rfl).1; simp only [Option.getD_some]; omega
 have h3 : Rd (slice env 53 (.sl id 0 cnt cap 1) (some (.int .i64 (i : Nat))) (some (.int .i64 ((i + 1 : Nat) : Int))) (some (.int .i64 (cnt : Nat)))) h n [] (.sl id i (i + 1 - i) (some (cnt - i)) 1) := by
  simp only [slice, u53, s22, bind_pure, bound, intK, bind_assoc, sameSz, Nat.mul_one, Nat.zero_add, Int.toNat_natCast]
  exact Rd.bind (i2 := []) (Rd.ob (decide_eq_true ⟨by omega, hb⟩)) (Rd.bind (i2 := []) (Rd.ob (decide_eq_true ⟨by omega, by omega⟩)) (Rd.bind (i2 := []) (Rd.ob (decide_eq_true ⟨by omega, by omega⟩)) (Rd.pure _)))
 simp only [fu106, Try.f106, Option.getD_some, List.replicate, fgr, opt, builtin, Nat.reduceAdd, Nat.reduceSub, hL.rds.bLen u53, gE]
 rw [opv_rd h3]
 simp only [fgr, builtin, bor, ne, hL.rds.bLen u53, gE]
 refine run_draw ⟨rfl, ?_⟩
 simp only [opt, Nat.reduceAdd, gE]
 rw [fev_rd (hL.rds.head_rd hL.roomy u53 s22 rfl (by omega))]
 simp only [opt, Nat.reduceAdd, gE]
 rw [fev_rd (hL.rds.tail_rd u53 s22 rfl (by omega))]
 simp only [builtin, Nat.reduceAdd, gE]
 have hsub := hL.rds.sub (lo := i + 1) (hi := cnt) (by omega) (Nat.le_refl _)
 have e0 : (subOf 0 i (.sl id 0 cnt cap 1)) = .sl id 0 i cap 1 := by
  cases cap <;> simp only [subOf, Nat.zero_mul, Nat.add_zero, Nat.sub_zero]
 generalize hys : (((cells.take cnt).drop ((i + 1) * 1)).take ((cnt - (i + 1)) * 1)) = ys at hsub
 have hyl : ys.length = cnt - (i + 1) := by have := hsub.length; omega
 have hye : ys = (cells.take cnt).drop (i + 1) := by
  rw [← hys, Nat.mul_one, Nat.mul_one, List.take_of_length_le (by rw [List.length_drop, List.length_take]; omega)]
 have hyo : ys.all oneCell = true := by
  rw [hye]
  rw [List.all_eq_true] at hone ⊢
  exact fun x hx => hone x (List.mem_of_mem_drop hx)
 rw [e0]
 have hsl : (splice cells i ys).length = cells.length := splice_len (by omega)
 refine fev_any hf (Q1 := fun v' h' n' => v' = .sl id 0 (cnt - 1) cap 1 ∧ h' = upd h id (some (.row (.l (splice cells i ys)) 22)) ∧ n' = n) ?_ fun v1 h1 n1 r1 w1 hn1 f1 ⟨a1, a2, a3⟩ => ?_
 ·refine wp_append_in (i := ⟨.slice 5, 1, 24, .nils⟩) (e := 22) hh hsub u53 u53 ti22 hyo (by decide) (by show (i + (cnt - (i + 1))) * 1 ≤ _; omega) (fun m hm => by have := hcap m hm; omega) ?_
  rw [show i + (cnt - (i + 1)) = cnt - 1 by omega, show i * (⟨.slice 5, 1, 24, .nils⟩ : TI).size = i from Nat.mul_one i]
  exact ⟨rfl, rfl, rfl⟩
 subst a1; subst a2; subst a3
 simp only [fgr, opt, builtin, blr, Nat.reduceAdd, gE]
 refine ⟨(by (try simp (disch := first | assumption | omega) only [fine, gF]); repeat' (first | rfl | exact (Bool.or_eq_true _ _).mpr (.inr rfl) | refine (Bool.and_eq_true _ _).mpr ⟨?_, ?_⟩)), ?_⟩
 have hL2 : Lst (upd h id (some (.row (.l (splice cells i ys)) 22))) 22 1 (.sl id 0 (cnt - 1) cap 1) (cnt - 1) ((splice cells i ys).take (cnt - 1)) := by
  have := Lst.sl (h := upd h id (some (.row (.l (splice cells i ys)) 22))) (e := 22) (sz := 1) id (cnt - 1) cap _ _ (upd_same _ _ _) (by rw [hsl]; omega) (fun k hk => by rw [hsl]; have := hcap k hk; omega) rfl
  rwa [Nat.mul_one] at this
 have hp := upd_same h id (some (.row (.l (splice cells i ys)) 22))
 have f2 : Free (upd h id (some (.row (.l (splice cells i ys)) 22))) n1 := f1
 have o2 : ∀ j, j ≠ id → upd h id (some (.row (.l (splice cells i ys)) 22)) j = h j := fun j hj => upd_ne _ _ hj
 generalize upd h id (some (.row (.l (splice cells i ys)) 22)) = h2 at *
 have h5 : ∃ ids, Rd (slice env 53 (.sl id 0 (cnt - 1) cap 1) (some (.int .i64 ((cnt - 1 : Nat) : Int))) (some (.int .i64 (cnt : Nat))) none) h2 n1 ids (.sl id (cnt - 1) (cnt - (cnt - 1)) (match cap with | some c => some (c - (cnt - 1)) | none => none) 1) := by
  cases cap with
  | none =>
   have nle : ¬ ((cnt : Nat) : Int) ≤ ((cnt - 1 : Nat) : Int) := by omega
   refine ⟨[id], ?_⟩
   simp only [slice, u53, s22, bind_pure, bound, intK, bind_assoc, sameSz, Nat.mul_one, Nat.zero_add, Int.toNat_natCast, roomOf, decide_eq_false nle]
   refine Rd.bind (i2 := []) (Rd.get hp) ?_
   simp only [rowK, bind_pure, Cont.size, hsl]
   exact Rd.bind (i2 := []) (Rd.ob (decide_eq_true ⟨by omega, by rw [Nat.sub_zero, Nat.div_one]; omega⟩)) (Rd.bind (i2 := []) (Rd.ob (decide_eq_true ⟨by omega, by omega⟩)) (Rd.pure _))
  | some c =>
   have := hcap c rfl
   refine ⟨[], ?_⟩
   simp only [slice, u53, s22, bind_pure, bound, intK, bind_assoc, sameSz, Nat.mul_one, Nat.zero_add, Int.toNat_natCast]
   exact Rd.bind (i2 := []) (Rd.ob (decide_eq_true ⟨by omega, by omega⟩)) (Rd.bind (i2 := []) (Rd.ob (decide_eq_true ⟨by omega, by omega⟩)) (Rd.pure _))
 obtain ⟨ids, h5⟩ := h5
 rw [opv_rd h5]
 have nb : (cnt - (cnt - 1)).beq 0 = false := beq_of (by omega)
 have c1 : cnt - (cnt - 1) = 1 := by omega
 have hbl : (cnt - 1 + 1).ble cells.length = true := ble_of (by omega)
 simp only [tyr, fgr, builtin, cel, rowK, sameSz, Nat.beq, reduceCtorEq, bClear, opv_ask, sameSz, c1, reps, writeCells, opv_get, hp, Option.some.injEq, exists_eq_left', rowK, opv_ob, Cont.size, hsl, hbl, List.all_cons, List.all_nil, oneCell, opv_set, ne_eq, gE]
 rw [setAll_l _ _ _ (by rw [hsl]; simp; omega)]
 refine ⟨?_, rfl, fun j hj => by rw [upd_ne _ _ hj]; exact o2 j hj⟩
 have hs2 : (splice (splice cells i ys) (cnt - 1) [.nils]).length = cells.length := by rw [splice_len (by rw [hsl]; simp; omega), hsl]
 have := Lst.sl (h := upd h2 id (some (.row (.l (splice (splice cells i ys) (cnt - 1) [.nils])) 22))) (e := 22) (sz := 1) id (cnt - 1) cap _ ((cells.take cnt).take i ++ (cells.take cnt).drop (i + 1)) (upd_same _ _ _) (by rw [hs2]; omega) (fun k hk => by rw [hs2]; have := hcap k hk; omega) ?_
 ·exact this
 ·rw [Nat.mul_one, ← hye, List.take_take, Nat.min_eq_left (by omega)]
  refine List.ext_getElem? fun j => ?_
  rw [List.getElem?_take]
  by_cases q : j < cnt - 1
  ·rw [if_pos q, spq_get (by rw [hsl]; simp; omega), if_neg (by omega), spq_get (by omega)]
   by_cases q2 : i ≤ j
   ·rw [if_pos (by omega), List.getElem?_append_right (by rw [List.length_take]; omega), List.length_take, Nat.min_eq_left (by omega)]
   ·rw [if_neg (by omega), List.getElem?_append_left (by rw [List.length_take]; omega), List.getElem?_take, if_pos (by omega)]
  ·rw [if_neg q, List.getElem?_eq_none (by rw [List.length_append, List.length_take]; omega)]
def farE (ls : List (List UInt8)) : Int := if numE ls = 0 then (if 0 ≤ numV ls ∧ numV ls < (popL ls).length then 0 else 120) else numE ls
def outI (ls : List (List UInt8)) (i : Nat) : List (List UInt8) := ls.take i ++ ls.drop (i + 1)
def farL (roll : Bool) (ls : List (List UInt8)) : List (List UInt8) := (match roll with | true => outI (popL ls) ((popL ls).length - 1 - (numV ls).toNat) | false => popL ls) ++ [topL (popL ls) (numV ls)]
theorem popL_len (ls : List (List UInt8)) : (popL ls).length = ls.length - 1 := by unfold popL; rw [List.length_take]; omega
theorem set_stk {h h' : Hp} {n n' : Nat} {D M : Nat → Prop} {p : Nat} {vl vo v2 : AVal} {xl xo ys : List AVal} {ls os ms : List (List UInt8)} (sv : StkV h n D p vl vo xl xo ls os) (mp : M p) (ml : ∀ j, ownId vl = some j → M j) (mo : ∀ j, ownId vo = some j → M j) (mn : ∀ j, M j → j < n ∧ ¬ D j)
  (hl : Lst h' 22 1 v2 ms.length ys) (hys : Els h' D ys ms) (hr : ∃ e, h' p = some (.row (.l [v2, vo]) e)) (hid : ∀ j, ownId v2 = some j → n ≤ j ∧ j < n') (ho : ∀ j, j < n → j ≠ p → h' j = h j) (hf : Free h' n') (hn : n ≤ n') : ∃ M', Stk h' n' D M' p ms os ∧ Ch2 h n M h' n' M' := by
 have hd : ∀ j, D j → h' j = h j := fun j hj => ho j (sv.dn j hj) (fun q => sv.pd (by rw [← q]; exact hj))
 have hvo : ∀ j, ownId vo = some j → h' j = h j := fun j hj => ho j (mn j (mo j hj)).1 (sv.op j hj).1
 refine ⟨fun j => j = p ∨ ownId v2 = some j ∨ ownId vo = some j, ⟨v2, vo, ys, xo, ⟨hr, hl, hys, sv.o.keep hvo, sv.oe.mono (fun _ h => h) hd, by have := sv.pn; omega, fun j hj => by have := sv.dn j hj; omega, sv.pd, fun j hj => ⟨fun e => by have := (hid j hj).1; have := sv.pn; omega, fun e => by have := (hid j hj).1; have := sv.dn j e; omega⟩, fun j hj => ⟨(sv.op j hj).1, (sv.op j hj).2.1, fun q => by have := (hid j q).1; have := (mn j (mo j hj)).1; omega⟩⟩, .inl rfl, fun j hj => .inr (.inl hj), fun j hj => .inr (.inr hj), fun j hj => ?_⟩, ⟨hn, hf, fun j hj => ?_, fun j hj hm => ho j hj (fun e => hm (by rw [e]; exact mp))⟩⟩
 ·rcases hj with q | q | q
  ·subst q; exact ⟨by have := sv.pn; omega, sv.pd⟩
  ·exact ⟨(hid j q).2, fun e => by have := (hid j q).1; have := sv.dn j e; omega⟩
  ·exact ⟨by have := (mn j (mo j q)).1; omega, (sv.op j q).2.1⟩
 ·rcases hj with q | q | q
  ·rw [q]; exact .inl mp
  ·exact .inr (hid j q).1
  ·exact .inl (mo j q)
set_option maxHeartbeats 4000000 in
theorem f102 (p : Nat) (roll : Bool) (ls os : List (List UInt8)) (D M : Nat → Prop) (h : Hp) (n : Nat) (hs : Stk h n D M p ls os) (hl : ls.length ≤ 10000) (hel : ∀ l ∈ ls, l.length ≤ 900000) (hf : Free h n) :
  Wp (callI env (evalW env) 102 [.ptr p 0, .bool roll]) h n fun v' h' n' => v' = .int .i64 (farE ls) ∧ ∃ M', Ch2 h n M h' n' M' ∧ (farE ls = 0 → Stk h' n' D M' p (farL roll ls) os) := by
 refine wp_callI ff102 fi102 ?_
 simp only [fu102, Try.f102, Option.getD_some, List.replicate, fgr, hkr, Nat.reduceAdd, Nat.reduceSub, gE]
 refine opv_callf hf (f53 p ls os D M h n hs (by omega) hel hf) fun v1 h1 n1 hn1 f1 ⟨e1, s1, c1⟩ => ?_
 subst e1
 by_cases hE : numE ls = 0
 case neg =>
  have hfe : farE ls = numE ls := if_neg hE
  simp only [fgr, bor, hE, gE]
  exact ⟨by rw [hfe], M, c1, fun q => absurd (hfe.symm.trans q) hE⟩
 have hL : numL ls = popL ls := if_pos hE
 rw [hL] at s1
 have hpl := popL_len ls
 by_cases h0 : numV ls < 0
 ·have hfe : farE ls = 120 := by unfold farE; rw [if_pos hE, if_neg (by omega)]
  simp only [fgr, bor, doPick, hE, h0, gE]
  exact ⟨by rw [hfe], M, c1, fun q => by rw [hfe] at q; cases q⟩
 obtain ⟨k, hk⟩ : ∃ k : Nat, numV ls = (k : Nat) := ⟨(numV ls).toNat, by omega⟩
 rw [hk] at h0
 obtain ⟨vl, vo, xl, xo, sv, mp, ml, mo, mn⟩ := s1
 simp only [tyr, fgr, hkr, bor, moved, hE, hk, h0, gE]
 refine opv_same (f66 p 0 vl [vl, vo] (popL ls).length xl h1 n1 sv.row rfl sv.l.rds) ?_
 by_cases h2 : (((popL ls).length : Nat) : Int) ≤ ((k : Nat) : Int)
 ·have hfe : farE ls = 120 := by unfold farE; rw [if_pos hE, if_neg (by rw [hk]; omega)]
  simp only [fgr, bor, doPick, ge_iff_le, h2, gE]
  exact ⟨by rw [hfe], M, c1, fun q => by rw [hfe] at q; cases q⟩
 have hfe : farE ls = 0 := by unfold farE; rw [if_pos hE, if_pos (by rw [hk]; omega)]
 simp only [tyr, fgr, hkr, bor, doPick, moved, ge_iff_le, h2, gE]
 obtain ⟨x, hx, hxe⟩ := elx sv.le (k := k) (by omega)
 have hxt : topL (popL ls) (k : Nat) = (popL ls).getD ((popL ls).length - 1 - k) [] := by unfold topL; rw [if_pos (by omega), Int.toNat_natCast]
 rw [← hxt] at hxe
 refine opv_callf f1 (f71 p 0 k (popL ls).length vl x [vl, vo] xl h1 n1 sv.row rfl sv.l.rds (by omega) (by omega) hx hxe.1.kind sv.pn (fun j hj => (mn j (ml j hj)).1) f1) fun v3 h3 n3 hn3 f3 ⟨e3, o3⟩ => ?_
 subst e3
 have sv3 := sv.keep (h' := h3) hn3 (o3 p sv.pn) (fun j hj => o3 j (mn j (ml j hj)).1) (fun j hj => o3 j (mn j (mo j hj)).1) (fun j hj => o3 j (sv.dn j hj))
 have mn3 : ∀ j, M j → j < n3 ∧ ¬ D j := fun j hj => ⟨by have := (mn j hj).1; omega, (mn j hj).2⟩
 have c3 : Ch2 h n M h3 n3 M := c1.trans (.of f3 hn3 o3)
 have hxe3 : El h3 D v3 (topL (popL ls) (k : Nat)) := hxe.mono (fun _ q => q) (fun j hj => o3 j (sv.dn j hj))
 cases roll with
 | false =>
  have hfl : farL false ls = popL ls ++ [topL (popL ls) (k : Nat)] := by unfold farL; rw [hk]
  simp only [tyr, fgr, moved, gE]
  rw [bs22 v3 hxe.1.kind]
  refine opv_row ti22 f3 fun h4 g4 o4 f4 => ?_
  have o4' : Old h3 h4 n3 := fun j hj => o4 j (by omega)
  have s4 : Stk h4 (n3 + 1) D M p (popL ls) os := (show Stk h3 n3 D M p (popL ls) os from ⟨vl, vo, xl, xo, sv3, mp, ml, mo, mn3⟩).old (by omega) o4'
  simp only [hkr, gE]
  refine opv_callf f4 (put0 p 1 _ [v3] [topL (popL ls) (k : Nat)] (popL ls) os D M D h4 (n3 + 1) s4 (row_rds g4 rfl) (Els.one (hxe3.mono (fun _ q => q) (fun j hj => o4 j (by have := sv3.dn j hj; omega)))) s4.d (by omega) f4) fun v5 h5 n5 hn5 f5 ⟨e5, M', s5, c5⟩ => ?_
  subst e5
  simp only [fgr, gE]
  refine ⟨by rw [hfe], M', (c3.trans (.of f4 (by omega) o4')).trans c5, fun _ => ?_⟩
  rw [hfl]
  exact s5.same or_idem
 | true =>
  have hfl : farL true ls = outI (popL ls) ((popL ls).length - 1 - k) ++ [topL (popL ls) (k : Nat)] := by unfold farL; rw [hk]; rfl
  have w1 : IntKind.i64.wrap ((((popL ls).length : Nat) : Int) - 1) = (((popL ls).length - 1 : Nat) : Int) := by rw [w64 (by omega) (by omega)]; omega
  have w2 : IntKind.i64.wrap ((((popL ls).length - 1 : Nat) : Int) - ((k : Nat) : Int)) = (((popL ls).length - 1 - k : Nat) : Int) := by rw [w64 (by omega) (by omega)]; omega
  have w3 : IntKind.i64.wrap ((((popL ls).length - 1 - k : Nat) : Int) + 1) = (((popL ls).length - 1 - k + 1 : Nat) : Int) := by rw [w64 (by omega) (by omega)]; omega
  simp only [tyr, fgr, hkr, moved, gE]
  refine opv_same (f66 p 0 vl [vl, vo] (popL ls).length xl h3 n3 sv3.row rfl sv3.l.rds) ?_
  simp only [tyr, fgr, bor, wrapI, moved, w1, w2, gE]
  rw [opv_rd (Row.one (off := 0) sv3.row rfl ti53 rfl)]
  simp only [hkr, gE]
  refine opv_callf f3 (f68 vl (popL ls).length xl h3 n3 sv3.l.rds (sv3.l.eqNil u53).1 (fun q => ((sv3.l.eqNil (E := env) u53).2 q).2.2) sv3.le.cells (fun j hj => (mn3 j (ml j hj)).1) (by omega) f3) fun v4 h4 n4 hn4 f4 ⟨l4, i4, o4⟩ => ?_
  simp only [hkr, bor, wrapI, w3, gE]
  have hxl4 := l4.rds.length
  obtain ⟨id, cap, cells, rfl, hh4, hl4, hc4, hx4⟩ := l4.inv (by omega)
  rw [Nat.mul_one] at hl4 hx4
  have hxl3 := sv3.le.len
  refine opv_callf f4 (f106 id ((popL ls).length - 1 - k) (popL ls).length cap cells h4 n4 hh4 (by omega) hl4 (fun m hm => by have := hc4 m hm; omega) (by rw [hx4]; exact sv3.le.cells) (by omega) (i4 id rfl).2 f4) fun v5 h5 n5 hn5 f5 ⟨v6, e6, l6, i6, o6, en6⟩ => ?_
  subst e6; subst en6
  rw [hx4] at l6
  have o5 : Old h3 h5 n3 := fun j hj => by rw [o6 j (by have := (i4 id rfl).1; omega)]; exact o4 j hj
  obtain ⟨er, hr3⟩ := sv3.row
  have hr5 : h5 p = some (.row (.l [vl, vo]) er) := (o5 p sv3.pn).trans hr3
  simp only [tyr, moved, gE]
  rw [opv_wr (Row.write hr5 ti53 (by rw [l6.rds.kind.1]; rfl) (by show 0 + 1 ≤ 2; omega) (by rw [l6.rds.kind.1]; simp [l6.rds.kind.2.1]))]
  rw [show splice [vl, vo] 0 v5.cells = [v5, vo] by rw [l6.rds.kind.1]; rfl]
  have i6n : ∀ j, ownId v5 = some j → n3 ≤ j ∧ j < n5 := fun j hj => by rw [i6] at hj; injection hj with hj; subst hj; exact i4 _ rfl
  have hOut : Els (upd h5 p (some (.row (.l [v5, vo]) er))) D (xl.take ((popL ls).length - 1 - k) ++ xl.drop ((popL ls).length - 1 - k + 1)) (outI (popL ls) ((popL ls).length - 1 - k)) := ((sv3.le.take _).app (sv3.le.drop _)).mono (fun _ q => q) (fun j hj => by rw [upd_ne _ _ (fun q => sv3.pd (by rw [← q]; exact hj))]; exact o5 j (sv3.dn j hj))
  have hOl : (outI (popL ls) ((popL ls).length - 1 - k)).length = (popL ls).length - 1 := by unfold outI; rw [List.length_append, List.length_take, List.length_drop]; omega
  have l7 : Lst (upd h5 p (some (.row (.l [v5, vo]) er))) 22 1 v5 (outI (popL ls) ((popL ls).length - 1 - k)).length (xl.take ((popL ls).length - 1 - k) ++ xl.drop ((popL ls).length - 1 - k + 1)) := by
   rw [hOl]; exact l6.keep fun j hj => upd_ne _ _ (fun q => by have := (i6n j hj).1; have := sv3.pn; omega)
  obtain ⟨M5, s5, c5⟩ := set_stk sv3 mp ml mo mn3 l7 hOut ⟨er, upd_same _ _ _⟩ (fun j hj => i6n j hj) (fun j hj hne => by rw [upd_ne _ _ hne]; exact o5 j hj) (f5.upd (by have := sv3.pn; omega)) (by omega)
  have hxe5 : El (upd h5 p (some (.row (.l [v5, vo]) er))) D v3 (topL (popL ls) (k : Nat)) := hxe3.mono (fun _ q => q) (fun j hj => by rw [upd_ne _ _ (fun q => sv3.pd (by rw [← q]; exact hj))]; exact o5 j (sv3.dn j hj))
  have f5' := c5.fr
  generalize upd h5 p (some (.row (.l [v5, vo]) er)) = h6 at *
  simp only [tyr, fgr, moved, gE]
  rw [bs22 v3 hxe.1.kind]
  refine opv_row ti22 f5' fun h7 g7 o7 f7 => ?_
  have o7' : Old h6 h7 n5 := fun j hj => o7 j (by omega)
  have s7 := s5.old (n' := n5 + 1) (by omega) o7'
  simp only [hkr, gE]
  refine opv_callf f7 (put0 p 1 _ [v3] [topL (popL ls) (k : Nat)] _ os D M5 D h7 (n5 + 1) s7 (row_rds g7 rfl) (Els.one (hxe5.mono (fun _ q => q) (fun j hj => o7 j (by have := (s5.d j hj).1; omega)))) s7.d (by omega) f7) fun v8 h8 n8 hn8 f8 ⟨e8, M', s8, c8⟩ => ?_
  subst e8
  simp only [fgr, gE]
  refine ⟨by rw [hfe], M', ((c3.trans c5).trans (.of f7 (by omega) o7')).trans c8, fun _ => ?_⟩
  rw [hfl]
  exact s8.same or_idem
def pickL (last : List (List UInt8)) (ix : List Nat) : List (List UInt8) := ix.map fun i => last.getD i []
theorem pick_succ {last : List (List UInt8)} {ix : List Nat} {i : Nat} (hi : i < ix.length) : pickL last (ix.take (i + 1)) = pickL last (ix.take i) ++ [last.getD ix[i] []] := by
 unfold pickL
 rw [List.take_add_one, List.getElem?_eq_getElem hi, Option.toList_some, List.map_append]; rfl
theorem u114 : und env 114 = M.pure (.slice 3) := rfl
theorem s3 : sizeOf env 3 = M.pure 1 := rfl
set_option maxHeartbeats 4000000 in
theorem loop69 (Q : Post0) (ks : List Kf) (p k n0 : Nat) (ix : List Nat) (vs v7 c : AVal) (ys : List AVal) (base last os : List (List UInt8)) (D M0 : Nat → Prop) (h0 : Hp) (hix : ∀ i ∈ ix, i < last.length) (hb : base.length + ix.length ≤ 10000)
  (hq : ∀ (h : Hp) n M (x9 x15 x24 x25 x38 x43 x53 x59 x68 x74 x84 x92 : AVal), Stk h n D M p (base ++ pickL last ix) os → Ch2 h0 n0 M0 h n M → Kont env 69 none Q ks (.exit 0) (.ptr p 0 :: c :: AVal.junk :: AVal.junk :: .int .i64 0 :: vs :: .bool true :: v7 :: AVal.junk :: x9 :: AVal.junk :: AVal.junk :: AVal.junk :: AVal.junk :: AVal.junk :: x15 :: AVal.junk :: AVal.junk :: AVal.junk :: AVal.junk :: AVal.junk :: AVal.junk :: vs :: .int .i64 (ix.length : Nat) :: x24 :: x25 :: AVal.junk :: AVal.junk :: AVal.junk :: AVal.junk :: AVal.junk :: AVal.junk :: AVal.junk :: AVal.junk :: AVal.junk :: AVal.junk :: AVal.junk :: AVal.junk :: x38 :: AVal.junk :: AVal.junk :: AVal.junk :: AVal.junk :: x43 :: AVal.junk :: AVal.junk :: AVal.junk :: AVal.junk :: AVal.junk :: AVal.junk :: AVal.junk :: AVal.junk :: AVal.junk :: x53 :: AVal.junk :: AVal.junk :: AVal.junk :: AVal.junk :: AVal.junk :: x59 :: AVal.junk :: AVal.junk :: AVal.junk :: AVal.junk :: AVal.junk :: AVal.junk :: AVal.junk :: AVal.junk :: x68 :: AVal.junk :: AVal.junk :: AVal.junk :: AVal.junk :: AVal.junk :: x74 :: AVal.junk :: AVal.junk :: AVal.junk :: AVal.junk :: AVal.junk :: AVal.junk :: AVal.junk :: AVal.junk :: AVal.junk :: x84 :: AVal.junk :: AVal.junk :: AVal.junk :: AVal.junk :: AVal.junk :: AVal.junk :: AVal.junk :: x92 :: AVal.junk :: AVal.junk :: AVal.junk :: AVal.junk :: AVal.junk :: AVal.junk :: AVal.junk :: AVal.junk :: []) h n) :
  ∀ (m i : Nat) (h : Hp) (n : Nat) (M : Nat → Prop) (x9 x15 x25 x38 x43 x53 x59 x68 x74 x84 x92 : AVal), i + m = ix.length → Stk h n D M p (base ++ pickL last (ix.take i)) os → Rds h 1 vs ix.length (ix.map iN) → Rds h 1 v7 last.length ys → Els h D ys last → (∀ j, ownId vs = some j → j < n ∧ ¬ M j) → (∀ j, ownId v7 = some j → j < n ∧ ¬ M j) → Ch2 h0 n0 M0 h n M → Free h n →
  Run env 69 none Q (.loop lp69_0) ks (.ptr p 0 :: c :: AVal.junk :: AVal.junk :: .int .i64 0 :: vs :: .bool true :: v7 :: AVal.junk :: x9 :: AVal.junk :: AVal.junk :: AVal.junk :: AVal.junk :: AVal.junk :: x15 :: AVal.junk :: AVal.junk :: AVal.junk :: AVal.junk :: AVal.junk :: AVal.junk :: vs :: .int .i64 (ix.length : Nat) :: .int .i64 (i : Nat) :: x25 :: AVal.junk :: AVal.junk :: AVal.junk :: AVal.junk :: AVal.junk :: AVal.junk :: AVal.junk :: AVal.junk :: AVal.junk :: AVal.junk :: AVal.junk :: AVal.junk :: x38 :: AVal.junk :: AVal.junk :: AVal.junk :: AVal.junk :: x43 :: AVal.junk :: AVal.junk :: AVal.junk :: AVal.junk :: AVal.junk :: AVal.junk :: AVal.junk :: AVal.junk :: AVal.junk :: x53 :: AVal.junk :: AVal.junk :: AVal.junk :: AVal.junk :: AVal.junk :: x59 :: AVal.junk :: AVal.junk :: AVal.junk :: AVal.junk :: AVal.junk :: AVal.junk :: AVal.junk :: AVal.junk :: x68 :: AVal.junk :: AVal.junk :: AVal.junk :: AVal.junk :: AVal.junk :: x74 :: AVal.junk :: AVal.junk :: AVal.junk :: AVal.junk :: AVal.junk :: AVal.junk :: AVal.junk :: AVal.junk :: AVal.junk :: x84 :: AVal.junk :: AVal.junk :: AVal.junk :: AVal.junk :: AVal.junk :: AVal.junk :: AVal.junk :: x92 :: AVal.junk :: AVal.junk :: AVal.junk :: AVal.junk :: AVal.junk :: AVal.junk :: AVal.junk :: AVal.junk :: []) h n := by
 intro m
 induction m with
 | zero =>
  intro i h n M x9 x15 x25 x38 x43 x53 x59 x68 x74 x84 x92 hi hs hvs h7 hel hd1 hd2 ch hf
  have : i = ix.length := by omega
  subst this
  have hc : ¬ ((ix.length : Nat) : Int) < ((ix.length : Nat) : Int) := by omega
  rw [run_loop]
  simp only [lp69_0, loopsOf, Try.f69, Option.getD_some, fgr, bor, List.getD_cons_zero, hc, gE]
  rw [List.take_length] at hs
  exact hq h n M _ _ _ _ _ _ _ _ _ _ _ _ hs ch
 | succ m ih =>
  intro i h n M x9 x15 x25 x38 x43 x53 x59 x68 x74 x84 x92 hi hs hvs h7 hel hd1 hd2 ch hf
  have hil : i < ix.length := by omega
  have hc : ((i : Nat) : Int) < ((ix.length : Nat) : Int) := by omega
  have hw : IntKind.i64.wrap (((i : Nat) : Int) + 1) = ((i + 1 : Nat) : Int) := by rw [w64 (by omega) (by omega)]; omega
  have hx := hix _ (List.getElem_mem hil)
  have hget : (ix.map iN)[i]? = some (.int .i64 ((ix[i] : Nat) : Int)) := by rw [List.getElem?_map, List.getElem?_eq_getElem hil]; rfl
  obtain ⟨x, hx1, hx2⟩ := hel.get hx
  rw [run_loop]
  simp only [lp69_0, loopsOf, Try.f69, Option.getD_some, fgr, bor, List.getD_cons_zero, hc, gE]
  rw [opv_rd (hvs.idx (j := i) u114 s3 rfl hil)]
  simp only [Nat.mul_one, gE]
  rw [opv_rd (hvs.load (k := i) ti3 rfl hget)]
  simp only [fgr, gE]
  refine run_draw ⟨rfl, ?_⟩
  simp only [tyr, moved, Nat.reduceAdd, gE]
  rw [fev_rd (h7.idx (j := ix[i]) u53 s22 rfl hx)]
  simp only [Nat.reduceAdd, Nat.mul_one, gE]
  rw [fev_rd (h7.load (k := ix[i]) ti22 rfl hx1)]
  simp only [Nat.reduceAdd, gE]
  rw [bs22 x hx2.1.kind]
  refine fev_row ti22 hf fun h1 r1 w1 g1 o1 f1 => ?_
  have o1' : Old h h1 n := fun j hj => o1 j (by omega)
  have s1 := hs.old (n' := n + 1) (by omega) o1'
  simp only [hkr, Nat.reduceAdd, gE]
  refine fev_any f1 (put0 p 1 _ [x] [last[ix[i]]] _ os D M D h1 (n + 1) s1 (row_rds g1 rfl) (Els.one (hx2.mono (fun _ q => q) (fun j hj => o1' j (hs.d j hj).1))) s1.d (by rw [List.length_append]; unfold pickL; rw [List.length_map, List.length_take]; omega) f1) fun v2 h2 n2 r2 w2 hn2 f2 ⟨e2, M', s2, c2⟩ => ?_
  subst e2
  simp only [fgr, bor, wrapI, Nat.reduceAdd, gE]
  refine ⟨(by (try simp (disch := first | assumption | omega) only [fine, gF]); repeat' (first | rfl | exact (Bool.or_eq_true _ _).mpr (.inr rfl) | refine (Bool.and_eq_true _ _).mpr ⟨?_, ?_⟩)), ?_⟩
  simp only [hw]
  have hget2 : last.getD ix[i] [] = last[ix[i]] := by rw [List.getD_eq_getElem?_getD, List.getElem?_eq_getElem hx]; rfl
  have ch2 : Ch2 h n M h2 n2 M' := (Ch2.of f1 (by omega) o1').trans c2
  have hk : ∀ j, (j < n ∧ ¬ M j) → h2 j = h j := fun j hj => ch2.old j hj.1 hj.2
  have hk2 : ∀ j, (j < n ∧ ¬ M j) → j < n2 ∧ ¬ M' j := fun j hj => ⟨by have := ch2.nx; omega, fun q => (ch2.m' j q).elim hj.2 (fun w => by omega)⟩
  refine ih (i + 1) h2 n2 M' _ _ _ _ _ _ _ _ _ _ _ (by omega) ?_ (hvs.keep fun j hj => hk j (hd1 j hj)) (h7.keep fun j hj => hk j (hd2 j hj)) (hel.mono (fun _ q => q) (fun j hj => hk j (hs.d j hj))) (fun j hj => hk2 j (hd1 j hj)) (fun j hj => hk2 j (hd2 j hj)) (ch.trans ch2) f2
  rw [pick_succ hil, hget2, ← List.append_assoc]
  exact s2.same or_idem
def doE (c : Int) (ls os : List (List UInt8)) : Int := match frm c with
 | some _ => 0
 | none => if c = 107 then 0 else if c = 108 then (if os = [] then 120 else 0) else if c = 115 then 0 else if c = 116 then 0 else if c = 130 then 0 else farE ls
def doL (c : Int) (ls os : List (List UInt8)) : List (List UInt8) := match frm c with
 | some x => ls.take (ls.length - x.1) ++ pickL (ls.drop (ls.length - x.1)) x.2
 | none => if c = 107 then popL ls else if c = 108 then ls ++ [top os] else if c = 115 then (if tv (top ls) = true then ls ++ [top ls] else ls) else if c = 116 then ls ++ [encL (ls.length : Nat)] else if c = 130 then ls ++ [encL ((top ls).length : Nat)] else farL (decide (c = 122)) ls
def doO (c : Int) (ls os : List (List UInt8)) : List (List UInt8) := match frm c with
 | some _ => os
 | none => if c = 107 then os ++ [top ls] else if c = 108 then popL os else os
theorem frm_ok {c : Int} {x : Nat × List Nat} (h : frm c = some x) : (∀ i ∈ x.2, i < x.1) ∧ x.1 ≤ 6 ∧ x.2.length ≤ 6 := by
 by_cases e109 : c = 109
 ·subst e109; rw [fr109] at h; injection h with h; subst h; decide
 by_cases e110 : c = 110
 ·subst e110; rw [fr110] at h; injection h with h; subst h; decide
 by_cases e111 : c = 111
 ·subst e111; rw [fr111] at h; injection h with h; subst h; decide
 by_cases e112 : c = 112
 ·subst e112; rw [fr112] at h; injection h with h; subst h; decide
 by_cases e113 : c = 113
 ·subst e113; rw [fr113] at h; injection h with h; subst h; decide
 by_cases e114 : c = 114
 ·subst e114; rw [fr114] at h; injection h with h; subst h; decide
 by_cases e117 : c = 117
 ·subst e117; rw [fr117] at h; injection h with h; subst h; decide
 by_cases e118 : c = 118
 ·subst e118; rw [fr118] at h; injection h with h; subst h; decide
 by_cases e119 : c = 119
 ·subst e119; rw [fr119] at h; injection h with h; subst h; decide
 by_cases e120 : c = 120
 ·subst e120; rw [fr120] at h; injection h with h; subst h; decide
 by_cases e123 : c = 123
 ·subst e123; rw [fr123] at h; injection h with h; subst h; decide
 by_cases e124 : c = 124
 ·subst e124; rw [fr124] at h; injection h with h; subst h; decide
 by_cases e125 : c = 125
 ·subst e125; rw [fr125] at h; injection h with h; subst h; decide
 rw [frN e109 e110 e111 e112 e113 e114 e117 e118 e119 e120 e123 e124 e125] at h; cases h
theorem drop_last {ls : List (List UInt8)} (h : ls ≠ []) : ls.drop (ls.length - 1) = [top ls] := by
 have hp := List.length_pos_iff.2 h
 unfold top topL
 rw [if_pos (by omega), List.drop_eq_getElem_cons (by omega), List.drop_of_length_le (by omega), List.getD_eq_getElem?_getD]
 simp only [Int.toNat_zero, Nat.sub_zero]
 rw [List.getElem?_eq_getElem (by omega)]; rfl
theorem elt {h : Hp} {D : Nat → Prop} {xl : List AVal} {ls : List (List UInt8)} (le : Els h D xl ls) (h0 : ls ≠ []) : ∃ x, xl[ls.length - 1 - 0]? = some x ∧ El h D x (top ls) := by
 have hp := List.length_pos_iff.2 h0
 obtain ⟨x, h1, h2⟩ := elx le (k := 0) (by omega)
 refine ⟨x, h1, ?_⟩
 unfold top topL
 rw [if_pos (by omega)]; exact h2
def DoPost (c : Int) (ls os : List (List UInt8)) (D M : Nat → Prop) (p : Nat) (h : Hp) (n : Nat) (v' : AVal) (h' : Hp) (n' : Nat) : Prop :=
 v' = .int .i64 (doE c ls os) ∧ ∃ D' M', Chg h n D M h' n' D' M' ∧ (doE c ls os = 0 → Stk h' n' D' M' p (doL c ls os) (doO c ls os))
end Go.Am.Ytmoplhbncjicbaa
