/- The functions that the statement reaches, gone through. -/
import Derived.Test.YtmlagocbphoedaaTgNaD
set_option linter.unusedSimpArgs false
set_option linter.unusedVariables false
set_option linter.defProp false
set_option maxRecDepth 10000
namespace Go.Am.Ytmlagocbphoedaa
open Go Go.Am Go.Proofs
set_option maxHeartbeats 4000000 in
theorem f15 (a : Nat) (h : Hp) (n : Nat) (ha : a < b256) (hf : Free h n) : Wp (callI env (evalW env) 15 [W a]) h n fun v' h' n' => v' = compA a ∧ Old h h' n := by
  refine wp_callI ff15 fi15 ?_
  have kb : Arr .u64 (upd h n (some (Blk.row (Cont.l [AVal.int IntKind.u64 (wd a 0 : Nat), AVal.int IntKind.u64 (wd a 1 : Nat), AVal.int IntKind.u64 (wd a 2 : Nat), AVal.int IntKind.u64 (wd a 3 : Nat)]) 25))) n 4 (fun j => (wd a j : Nat)) := arr_W (upd_same _ _ _)
  simp only [fu15, Try.f15, Option.getD_some, List.replicate, core1, tyr, fgr, execOp, opd, ofValue, putT, put, nth, forgetL, cel, alloc, newRow, ended, resultOf, oneOrTup, List.cons_append, List.nil_append, List.length_cons, List.length_nil, Nat.reduceSub, Nat.zero_add, wp_pure, W]
  rw [opv_rd (kb.all ti25 rfl rfl), range4]
  simp only [core1, hkr, execOp, opd, opds, putT, put, nth, doCall, callV_func, List.nil_append, List.append_nil]
  refine opv_callf hf.new (f39 a _ _ ha) fun v1 h1 n1 hn1 f1 ⟨e1, o1⟩ => ?_
  subst e1
  by_cases h0 : a = 0
  · simp only [core1, fgr, execOp, opd, ofValue, putT, put, nth, forgetL, ↓reduceIte, decide_true, true_and, h0, compA]
    exact fun j hj => by rw [o1 j (by omega), upd_ne _ _ (by omega)]
  have k1 := kb.keep (o1 _ (by omega))
  have o1 : Old h h1 n := fun j hj => by rw [o1 j (by omega), upd_ne _ _ (by omega)]
  simp only [core1, tyr, fgr, execOp, opd, ofValue, putT, put, nth, forgetL, zeroOf, cel, alloc, doAlloc, newRow, decide_false, h0]
  refine opv_arr (arr_1 (by rw [upd_ne _ _ (by omega), upd_ne _ _ (by omega)]; exact upd_same _ _ _)) ti3 rfl (j := 0) (by decide) fun b4 k4 => ?_
  simp only [core1, execOp, opd, ofValue, putT, nth]
  refine opv_arr (arr_1 (by rw [upd_ne _ _ (by omega), upd_ne _ _ (by omega)]; exact upd_same _ _ _)) ti35 rfl (j := 0) (by decide) fun b5 k5 => ?_
  simp only [core1, execOp, opd, ofValue, putT, nth]
  refine opv_arr (arr_1 (by rw [upd_ne _ _ (by omega), upd_ne _ _ (by omega)]; exact upd_same _ _ _)) ti3 rfl (j := 0) (by decide) fun b6 k6 => ?_
  have k4 := ((arr_one k4).upd (i := n1 + 1) (b := some b5) (by omega)).upd (i := n1 + 1 + 1) (b := some b6) (by omega)
  have k5 := (arr_one k5).upd (i := n1 + 1 + 1) (b := some b6) (by omega)
  have k6 := arr_one k6
  generalize hG : upd (upd (upd (upd (upd (upd h1 n1 _) _ _) _ _) _ _) _ _) _ _ = G at *
  have gk : ∀ j, j < n1 → G j = h1 j := fun j hj => by rw [← hG]; simp (disch := omega) only [upd_ne]
  have fG : Free G (n1 + 1 + 1 + 1) := by rw [← hG]; exact (((f1.new.new.new).upd (by omega)).upd (by omega)).upd (by omega)
  clear hG
  have g1 := k1.keep (gk _ (by omega))
  have oG : Old h G n := fun j hj => by rw [gk j (by omega)]; exact o1 j hj
  simp only [core1, fgr, execOp, opd, putT, nth, forgetL]
  rw [opv_rd (g1.all ti25 rfl rfl), range4]
  simp only [core1, hkr, execOp, opd, opds, putT, put, nth, doCall, callV_func, List.nil_append, List.append_nil]
  refine (opv_det (f50 a G _) _ _ _ _ _ _ _ _ _).2 ?_
  simp only [core1, fgr, putT, put, forgetL]
  refine run_range (g := 66) (first := []) (cap := [.ptr (n1 + 1 + 1 + 1) 0]) rfl rfl ?_
  refine wp_callI ff66 fi66 ?_
  simp only [fu66, Try.f66, Option.getD_some, List.replicate, core1, execOp, opd, nth, ended, resultOf, oneOrTup, List.cons_append, List.nil_append, List.length_cons, List.length_nil, Nat.reduceAdd, Nat.reduceSub, Nat.zero_add, wp_pure]
  generalize hF : upd (upd G (n1 + 1 + 1 + 1) _) (n1 + 1 + 1 + 1 + 1) (some (Blk.loop _)) = F
  have fid := (congrFun hF.symm (n1 + 1 + 1 + 1 + 1)).trans (upd_same _ _ _)
  have fa : Arr .u64 F (n1 + 1 + 1 + 1) 4 (fun j => (wd a j : Nat)) := arr_W (by rw [← hF, upd_ne _ _ (by omega)]; exact upd_same _ _ _)
  have fk : ∀ j, j < n1 + 1 + 1 + 1 → F j = G j := fun j hj => by rw [← hF, upd_ne _ _ (by omega), upd_ne _ _ (by omega)]
  have k4 := k4.keep (fk _ (by omega))
  have k5 := k5.keep (fk _ (by omega))
  have k6 := k6.keep (fk _ (by omega))
  have fF : Free F (n1 + 1 + 1 + 1 + 1 + 1) := by rw [← hF]; exact fG.new.new
  have oF : Old h F n := fun j hj => by rw [fk j (by omega)]; exact oG j hj
  clear hF
  rw [opv_rd (fa.all ti25 rfl rfl), range4]
  simp only [core1, hkr, execOp, opd, opds, putT, put, nth, doCall, callV_func, List.nil_append, List.append_nil]
  refine opv_callf fF (f67 a F _) fun v2 h2 n2 hn2 f2 ⟨id2, y2⟩ => ?_
  have e2 := y2.eq
  subst e2
  simp only [core1, fgr, execOp, opd, opds, ofValue, putT, put, nth, forgetL, doCall, builtin, one1, blr, bor, binInt, shiftB, intOp, wrapI, Int.cast_ofNat_Int, Int.reduceSub, decide_true]
  have hs := isSz_bsz a
  have hs32 := bsz_le ha
  have hs0 := bsz_pos h0
  have yo := y2.old
  have yg := y2.ge
  have yl := y2.lt
  have hml := mantV_lt a
  refine loop66 _ _ n a (bsz a) (n1 + 1 + 1 + 1) id2 n1 (n1 + 1) (n1 + 1 + 1) (n1 + 1 + 1 + 1 + 1) _ ha hs hs0 hs32 (by omega) (by omega) h n2 (by omega) ?hA ?hB 32 h2 _ _ _ _ _ _ _ _ _ _ _ _ _ _ _ _ _ (by omega) (by omega) ((y2.old _ (by omega)).trans fid) y2.nums ((k4.keep (y2.old _ (by omega))).ext fun j hj => by rw [if_pos hs32]; rfl) ((k5.keep (y2.old _ (by omega))).ext fun j hj => by rw [(hs.zero (m := 32)).2 hs32]; rfl) ((k6.keep (y2.old _ (by omega))).ext fun j hj => by rw [show bsz a - 32 = 0 by omega]; rfl) (oF.trans y2.old (by omega)) f2
  case' hA =>
    intro h3 tm' x0 x1 x2 x3 x7 x8 x10 x12 x13 x14 x20 x23 x32 x34 x40 hlt hid l4 l5 l6 o3 f3
    simp only [core1, true_and]
    refine ⟨_, hid, by simp [L15], .normal, rfl, ?_⟩
    simp only [core1]
    have hM : bsz a < 2 ^ 60 := by omega
    have hF : mantV a = a * 2 ^ (8 * (3 - bsz a)) := by
      unfold mantV
      rw [show bsz a - 3 = 0 by omega, Nat.mul_zero, Nat.pow_zero, Nat.div_one]
    refine loop15 _ _ none _ (n1 + 1) (n1 + 1 + 1) n2 (by omega) _ (mantV a) ?_ (3 - bsz a) (bsz a) a _ _ _ _ _ _ _ _ _ _ _ _ _ _ _ _ (by omega) hs.1 hF (l5.upd (by omega)) (l6.upd (by omega)) (fun _ _ _ => rfl)
    intro h4 x0 x1 x2 x3 x7 x8 x10 x12 x13 x14 x20 x23 x32 x34 x40 l5 hk
    have l4 := (l4.upd (i := n1 + 1 + 1 + 1 + 1) (by omega)).keep (hk _ (by omega) (by omega))
    have o4 : Old h h4 n := fun j hj => by rw [hk j (by omega) (by omega), upd_ne _ _ (by omega)]; exact o3 j hj
    clear hk
  case' hB =>
    intro h3 tm' hlt ⟨l, hid, ld, lp⟩ l4 l5 l6 o3 f3
    simp only [core1, true_and]
    refine ⟨_, hid, by simp [ld], .exit 0, by rw [lp], ?_⟩
    simp only [core1]
    have hM : bsz a < 2 ^ 60 := by omega
    have hF : mantV a = a / 2 ^ (8 * (bsz a - 3)) * 2 ^ (8 * 0) := by
      unfold mantV
      rw [show 3 - bsz a = 0 by omega]
    have hl := hs.lt (m := bsz a - 3)
    rw [show bsz a - (bsz a - 3) = 3 by omega] at hl
    refine loop15 _ _ none _ (n1 + 1) (n1 + 1 + 1) n2 (by omega) _ (mantV a) ?_ 0 3 _ _ _ _ _ _ _ _ _ _ _ _ _ _ _ _ _ (by omega) hl hF (l5.upd (by omega)) (l6.upd (by omega)) (fun _ _ _ => rfl)
    intro h4 x0 x1 x2 x3 x7 x8 x10 x12 x13 x14 x20 x23 x32 x34 x40 l5 hk
    have l4 := (l4.upd (i := n1 + 1 + 1 + 1 + 1) (by omega)).keep (hk _ (by omega) (by omega))
    have o4 : Old h h4 n := fun j hj => by rw [hk j (by omega) (by omega), upd_ne _ _ (by omega)]; exact o3 j hj
    clear hk
  all_goals
    simp only [core1, execOp, opd, nth]
    rw [opv_rd (l5.load ti35 rfl (j := 0) (by decide))]
    by_cases c : 8388608 ≤ mantV a
    · have ci : (8388608 : Int) ≤ ((mantV a : Nat) : Int) := by omega
      have sr : Int.fdiv ((mantV a : Nat) : Int) (2 ^ (min (Int.toNat 8) IntKind.u32.bits)) = ((mantV a / 256 : Nat) : Int) := shr32 (mantV a) 8 (by decide)
      have wp : IntKind.i64.wrap (((bsz a : Nat) : Int) + 1) = ((bsz a + 1 : Nat) : Int) := by rw [w64 (by omega) (by omega)]; omega
      have cv : IntKind.u32.wrap ((bsz a + 1 : Nat) : Int) = ((bsz a + 1 : Nat) : Int) := by rw [wrap32, Nat.mod_eq_of_lt (by omega)]
      have sh : IntKind.u32.wrap (((bsz a + 1 : Nat) : Int) * 2 ^ (min (Int.toNat 24) IntKind.u32.bits)) = (((bsz a + 1) * 16777216 : Nat) : Int) := by
        have := shl32 (bsz a + 1) 24 (by decide)
        rw [Nat.mod_eq_of_lt (by omega)] at this
        exact this
      have orr : IntKind.u32.wrap ((BitVec.ofInt IntKind.u32.bits (((bsz a + 1) * 16777216 : Nat) : Int) ||| BitVec.ofInt IntKind.u32.bits ((mantV a / 256 : Nat) : Int)).toNat : Int) = ((compV a : Nat) : Int) := by
        rw [or32 (by omega) (by omega), or_low _ _ 24 (Nat.mul_mod_left _ _) (by omega)]
        unfold compV
        rw [if_pos c]
      simp only [core1, fgr, execOp, opd, ofValue, putT, put, nth, forgetL, bor, binInt, shiftB, intOp, ge_iff_le, decide_true, ci]
      refine run_draw.2 ⟨rfl, ?_⟩
      simp only [fe_cons, execOp, opd, nth]
      rw [fev_rd (l5.load ti35 rfl (j := 0) (by decide))]
      simp only [fe_cons, fev_ob, fev_pure, execOp, opd, ofValue, putT, put, nth, bor, binInt, shiftB, shiftOp, Nat.reduceAdd, Int.reduceLE, decide_true, true_and, Nat.zero_add, sr]
      rw [fev_rd (l4.load ti3 rfl (j := 0) (by decide))]
      simp only [fe_cons, fev_pure, execOp, opd, ofValue, putT, put, nth, bor, binInt, shiftB, intOp, wrapI, Nat.reduceAdd, decide_true, wp]
      refine fev_st l5 ti35 rfl (j := 0) (by decide) fun b5 m5 => ?_
      simp only [fe_cons, execOp, opd, putT, nth, Nat.reduceAdd]
      refine fev_st (l4.upd (by omega)) ti3 rfl (j := 0) (by decide) fun b4 m4 => ?_
      simp only [fe_nil, core1, fgr, execOp, opd, putT, nth, forgetL, Nat.reduceAdd]
      refine ⟨(by (try simp (disch := omega) only [fine, List.all_cons, List.all_nil, clash_pl, clash_pr, clash_rr, Bool.not_false, Bool.true_or, Bool.and_true, Bool.true_and, clash_rw, clash_ww]); repeat' (first | rfl | exact (Bool.or_eq_true _ _).mpr (.inr rfl) | refine (Bool.and_eq_true _ _).mpr ⟨?_, ?_⟩)), ?_⟩
      have m5 := (arr_one m5).upd (i := n1) (b := some b4) (by omega)
      have m4 := arr_one m4
      rw [opv_rd (m4.load ti3 rfl (j := 0) (by decide))]
      simp only [core1, tyr, execOp, opd, ofValue, putT, put, nth, und, lenOf, bor, binInt, shiftB, shiftOp, wrapI, strK, intK, Int.reduceLE, decide_true, true_and, convert, convStr, isU8, cv, sh]
      rw [opv_rd (m5.load ti35 rfl (j := 0) (by decide))]
      simp only [core1, fgr, execOp, opd, ofValue, putT, put, nth, forgetL, bor, binInt, shiftB, intOp, wrapI, decide_true, true_and, orr, compA, if_neg h0]
      exact fun j hj => by rw [upd_ne _ _ (by omega), upd_ne _ _ (by omega)]; exact o4 j hj
    · have ci : ¬ (8388608 : Int) ≤ ((mantV a : Nat) : Int) := by omega
      have cv : IntKind.u32.wrap ((bsz a : Nat) : Int) = ((bsz a : Nat) : Int) := by rw [wrap32, Nat.mod_eq_of_lt (by omega)]
      have sh : IntKind.u32.wrap (((bsz a : Nat) : Int) * 2 ^ (min (Int.toNat 24) IntKind.u32.bits)) = (((bsz a) * 16777216 : Nat) : Int) := by
        have := shl32 (bsz a) 24 (by decide)
        rw [Nat.mod_eq_of_lt (by omega)] at this
        exact this
      have orr : IntKind.u32.wrap ((BitVec.ofInt IntKind.u32.bits (((bsz a) * 16777216 : Nat) : Int) ||| BitVec.ofInt IntKind.u32.bits ((mantV a : Nat) : Int)).toNat : Int) = ((compV a : Nat) : Int) := by
        rw [or32 (by omega) (by omega), or_low _ _ 24 (Nat.mul_mod_left _ _) (by omega)]
        unfold compV
        rw [if_neg c]
      simp only [core1, fgr, execOp, opd, ofValue, putT, put, nth, forgetL, bor, binInt, shiftB, intOp, ge_iff_le, decide_true, decide_false, ci]
      rw [opv_rd (l4.load ti3 rfl (j := 0) (by decide))]
      simp only [core1, tyr, execOp, opd, ofValue, putT, put, nth, und, lenOf, bor, binInt, shiftB, shiftOp, wrapI, strK, intK, Int.reduceLE, decide_true, true_and, convert, convStr, isU8, cv, sh]
      rw [opv_rd (l5.load ti35 rfl (j := 0) (by decide))]
      simp only [core1, fgr, execOp, opd, ofValue, putT, put, nth, forgetL, bor, binInt, shiftB, intOp, wrapI, decide_true, true_and, orr, compA, if_neg h0]
      exact o4
/-- Three bytes of a number that has s. -/
def manS (a s : Nat) : Nat := a * 2 ^ 24 / 2 ^ (8 * s)
theorem mul_pow_div (a i j : Nat) : a * 2 ^ i / 2 ^ j = a * 2 ^ (i - j) / 2 ^ (j - i) := by
  by_cases h : i ≤ j
  · rw [show i - j = 0 by omega, Nat.pow_zero, Nat.mul_one]
    conv => lhs; rw [show 2 ^ j = 2 ^ i * 2 ^ (j - i) by rw [← Nat.pow_add]; congr 1; omega, Nat.mul_comm a]
    rw [Nat.mul_div_mul_left _ _ (Nat.two_pow_pos _)]
  · rw [show j - i = 0 by omega, Nat.pow_zero, Nat.div_one]
    rw [show 2 ^ i = 2 ^ (i - j) * 2 ^ j by rw [← Nat.pow_add]; congr 1; omega, ← Nat.mul_assoc, Nat.mul_div_cancel _ (Nat.two_pow_pos _)]
theorem mantV_eq (a : Nat) : mantV a = manS a (bsz a) := by
  unfold mantV manS
  rw [mul_pow_div]
  by_cases h : bsz a ≤ 3
  · rw [show bsz a - 3 = 0 by omega, show 8 * bsz a - 24 = 0 by omega, show 24 - 8 * bsz a = 8 * (3 - bsz a) by omega]
    simp
  · rw [show 3 - bsz a = 0 by omega, show 24 - 8 * bsz a = 0 by omega, show 8 * bsz a - 24 = 8 * (bsz a - 3) by omega]
    simp
theorem manS_succ (a s : Nat) : manS a (s + 1) = manS a s / 256 := by
  unfold manS
  rw [show 8 * (s + 1) = 8 * s + 8 by omega, Nat.pow_add, ← Nat.div_div_eq_div_mul]
/-- The size that is written. -/
def szC (a : Nat) : Nat := if 8388608 ≤ mantV a then bsz a + 1 else bsz a
theorem compV_eq (a : Nat) : compV a = szC a * 16777216 + manS a (szC a) ∧ manS a (szC a) < 8388608 := by
  have h := mantV_lt a
  unfold compV szC
  by_cases c : 8388608 ≤ mantV a
  · rw [if_pos c, if_pos c, manS_succ, ← mantV_eq]
    exact ⟨rfl, by omega⟩
  · rw [if_neg c, if_neg c, ← mantV_eq]
    exact ⟨rfl, by omega⟩
theorem szC_le {a : Nat} (ha : a < b256) : szC a ≤ 33 := by
  have := bsz_le ha
  unfold szC
  split <;> omega
/-- What a compact form stands for. -/
def expX (n : Nat) : Nat := if n / 16777216 < 3 then n % 8388608 / 2 ^ (8 * (3 - n / 16777216)) else n % 8388608 * 2 ^ (8 * (n / 16777216 - 3))
def expV (n : Nat) : Option Nat := if expX n < b256 ∧ expX n ≠ 0 ∧ compV (expX n) = n then some (expX n) else none
def expA (n : Nat) : AVal := match expV n with
  | none => .tup [W 0, .int .i64 50]
  | some x => .tup [W x, .int .i64 0]
/-- The truncated one is not taken for it. -/
theorem exp_trunc {n x : Nat} (hx : x < b256) (hc : compV x = n) (h3 : 3 ≤ n / 16777216) (he : x = expX n % b256) : expX n < b256 := by
  obtain ⟨c1, c2⟩ := compV_eq x
  have hs : n / 16777216 = szC x := by rw [← hc, c1]; omega
  have hm : n % 8388608 = manS x (szC x) := by rw [← hc, c1]; omega
  have hle := szC_le hx
  have hX : expX n = n % 8388608 * 2 ^ (8 * (n / 16777216 - 3)) := by unfold expX; rw [if_neg (by omega)]
  rw [hX]
  have h1 : manS x (szC x) = x / 2 ^ (8 * (szC x - 3)) := by
    unfold manS
    rw [mul_pow_div, show 24 - 8 * szC x = 0 by omega, Nat.pow_zero, Nat.mul_one]
    congr 2; omega
  rw [hs] at hX h3 ⊢
  rw [hX, p256] at he
  have h2 : x / 2 ^ (8 * (szC x - 3)) = n % 8388608 % 2 ^ (256 - 8 * (szC x - 3)) := by
    generalize szC x = s at *
    rw [he, show (2 : Nat) ^ 256 = 2 ^ (8 * (s - 3)) * 2 ^ (256 - 8 * (s - 3)) by rw [← Nat.pow_add]; congr 1; omega]
    rw [Nat.mod_mul_right_div_self, Nat.mul_div_cancel _ (Nat.two_pow_pos _)]
  rw [h2] at h1
  rw [h1] at hm
  have h4 : n % 8388608 < 2 ^ (256 - 8 * (szC x - 3)) := by
    rw [hm]; exact Nat.mod_lt _ (Nat.two_pow_pos _)
  rw [p256, show (256 : Nat) = 256 - 8 * (szC x - 3) + 8 * (szC x - 3) by omega, Nat.pow_add]
  exact (Nat.mul_lt_mul_right (Nat.two_pow_pos _)).2 h4
theorem expV_hi {n : Nat} (h : 33 < n / 16777216) : expV n = none := by
  unfold expV
  rw [if_neg]
  rintro ⟨h1, h2, h3⟩
  have := szC_le h1
  have := (compV_eq (expX n)).1
  have := (compV_eq (expX n)).2
  rw [h3] at *
  omega
theorem expV_x {n x : Nat} (hx : x = expX n) (h1 : x < b256) (h2 : x ≠ 0) (h3 : compV x = n) : expV n = some x := by
  subst hx
  exact if_pos ⟨h1, h2, h3⟩
theorem expV_no {n : Nat} (h : expX n < b256 → expX n ≠ 0 → compV (expX n) ≠ n) : expV n = none := if_neg fun q => h q.1 q.2.1 q.2.2
/- What a compact form stands for: the program's. -/
theorem mask23 {x : Nat} (hx : x < 4294967296) : IntKind.u32.wrap ((BitVec.ofInt IntKind.u32.bits (x : Int) &&& BitVec.ofInt IntKind.u32.bits 8388607).toNat : Int) = ((x % 8388608 : Nat) : Int) := by
  rw [BitVec.toNat_and, bv32 hx, show (BitVec.ofInt IntKind.u32.bits 8388607).toNat = 2 ^ 23 - 1 from rfl, Nat.and_two_pow_sub_one_eq_mod, wrap32, Nat.mod_eq_of_lt]
  have : x % 2 ^ 23 < 8388608 := Nat.mod_lt _ (by decide)
  omega
set_option maxHeartbeats 4000000 in
theorem f16 (c : Nat) (h : Hp) (n : Nat) (hc : c < 4294967296) (hf : Free h n) : Wp (callI env (evalW env) 16 [.int .u32 (c : Nat)]) h n fun v' h' n' => v' = expA c ∧ Old h h' n := by
  refine wp_callI ff16 fi16 ?_
  have hS : c / 16777216 < 256 := by omega
  have hm : c % 8388608 < 8388608 := Nat.mod_lt _ (by decide)
  obtain ⟨s, es⟩ : ∃ s, s = c / 16777216 := ⟨_, rfl⟩
  obtain ⟨m, em⟩ : ∃ m, m = c % 8388608 := ⟨_, rfl⟩
  have sr : Int.fdiv ((c : Nat) : Int) (2 ^ (min (Int.toNat 24) IntKind.u32.bits)) = ((s : Nat) : Int) := by rw [es]; exact shr32 c 24 (by decide)
  have cv1 : IntKind.i64.wrap ((s : Nat) : Int) = ((s : Nat) : Int) := w64 (by omega) (by omega)
  have cv2 : IntKind.u64.wrap ((m : Nat) : Int) = ((m : Nat) : Int) := wu64 (by omega) (by omega)
  have mk := mask23 hc
  rw [← em] at mk
  simp only [fu16, Try.f16, Option.getD_some, List.replicate, core1, tyr, fgr, hkr, execOp, opd, opds, ofValue, putT, put, nth, forgetL, doCall, callV_func, und, zeroOf, lenOf, bor, binInt, shiftB, shiftOp, intOp, wrapI, strK, intK, cel, alloc, doAlloc, newRow, ended, resultOf, oneOrTup, List.cons_append, List.nil_append, List.append_nil, List.length_cons, List.length_nil, Nat.reduceSub, Int.reduceLE, decide_true, true_and, Nat.zero_add, convert, convStr, isU8, sr, cv1, cv2, mk]
  have q1 : IntKind.i64.wrap (8 * IntKind.i64.wrap (((s : Nat) : Int) - 3)) = 8 * (((s : Nat) : Int) - 3) := by rw [w64 (n := ((s : Nat) : Int) - 3) (by omega) (by omega), w64 (by omega) (by omega)]
  have hmb : m < b256 := by unfold b256; omega
  refine opv_callf hf.new (f19 m _ _ (by omega)) fun v1 h1 n1 hn1 f1 ⟨e1, o1⟩ => ?_
  subst e1
  have k2 : Arr .u64 h1 n 4 (fun _ => 0) := (arr_0 (upd_same _ _ _)).keep (o1 _ (by omega))
  have o1 : Old h h1 n := fun j hj => by rw [o1 j (by omega), upd_ne _ _ (by omega)]
  simp only [core1, tyr, execOp, opd, putT, put, nth, zeroOf, cel, alloc, doAlloc, newRow, W]
  refine opv_all4 (arr_0 (upd_same _ _ _)) ti25 rfl fun b5 k5 => ?_
  have k5 := pick_wd k5
  have s5 : ∀ j, j < n1 → (upd (upd h1 n1 (some (Blk.row (Cont.l [AVal.int IntKind.u64 0, AVal.int IntKind.u64 0, AVal.int IntKind.u64 0, AVal.int IntKind.u64 0]) 25))) n1 (some b5)) j = h1 j := fun j hj => by rw [upd_ne _ _ (by omega), upd_ne _ _ (by omega)]
  have f5 : Free (upd (upd h1 n1 (some (Blk.row (Cont.l [AVal.int IntKind.u64 0, AVal.int IntKind.u64 0, AVal.int IntKind.u64 0, AVal.int IntKind.u64 0]) 25))) n1 (some b5)) (n1 + 1) := f1.new.upd (by omega)
  generalize upd (upd h1 n1 (some (Blk.row (Cont.l [AVal.int IntKind.u64 0, AVal.int IntKind.u64 0, AVal.int IntKind.u64 0, AVal.int IntKind.u64 0]) 25))) n1 (some b5) = H5 at *
  have k2 := k2.keep (s5 _ (by omega))
  have o5 : Old h H5 n := fun j hj => by rw [s5 j (by omega)]; exact o1 j hj
  simp only [core1, fgr, execOp, opd, putT, nth, forgetL]
  rw [opv_rd (k5.all ti25 rfl rfl), range4]
  simp only [core1, hkr, execOp, opd, opds, ofValue, putT, put, nth, doCall, callV_func, bor, binInt, shiftB, intOp, wrapI, List.nil_append, List.append_nil, decide_true, q1]
  refine opv_callf f5 (f20 m (8 * (((s : Nat) : Int) - 3)) _ _ hmb f5) fun v6 h6 n6 hn6 f6 ⟨e6, o6⟩ => ?_
  subst e6
  have k5 := k5.keep (o6 _ (by omega))
  have k2 := k2.keep (o6 _ (by omega))
  simp only [core1, tyr, execOp, opd, putT, put, nth, zeroOf, cel, alloc, doAlloc, newRow, W]
  refine opv_all4 (arr_0 (upd_same _ _ _)) ti25 rfl fun b7 k7 => ?_
  have k7 := pick_wd k7
  have s7 : ∀ j, j < n6 → (upd (upd h6 n6 (some (Blk.row (Cont.l [AVal.int IntKind.u64 0, AVal.int IntKind.u64 0, AVal.int IntKind.u64 0, AVal.int IntKind.u64 0]) 25))) n6 (some b7)) j = h6 j := fun j hj => by rw [upd_ne _ _ (by omega), upd_ne _ _ (by omega)]
  have f7 : Free (upd (upd h6 n6 (some (Blk.row (Cont.l [AVal.int IntKind.u64 0, AVal.int IntKind.u64 0, AVal.int IntKind.u64 0, AVal.int IntKind.u64 0]) 25))) n6 (some b7)) (n6 + 1) := f6.new.upd (by omega)
  generalize upd (upd h6 n6 (some (Blk.row (Cont.l [AVal.int IntKind.u64 0, AVal.int IntKind.u64 0, AVal.int IntKind.u64 0, AVal.int IntKind.u64 0]) 25))) n6 (some b7) = H7 at *
  have k5 := k5.keep (s7 _ (by omega))
  have k2 := k2.keep (s7 _ (by omega))
  have o7 : Old h H7 n := fun j hj => by rw [s7 j (by omega), o6 j (by omega)]; exact o5 j hj
  by_cases hi : 33 < s
  · have e := expV_hi (n := c) (by omega)
    have c1 : ¬ ((s : Nat) : Int) < 3 := by omega
    have c2 : 33 < ((s : Nat) : Int) := by omega
    simp only [core1, fgr, execOp, opd, ofValue, ops2, putT, put, nth, forgetL, bor, binInt, shiftB, intOp, gt_iff_lt, decide_true, decide_false, c1, c2]
    simp (disch := omega) only [core1, tyr, execOp, opd, putT, put, nth, sizeOf, cel, getO, build, fill]
    refine opv_all4 k2 ti25 rfl fun bb hbb => ?_
    simp only [core1, fgr, execOp, opd, ofValue, putT, put, nth, forgetL, true_and, wp_pure, wp_rd (hbb.all ti25 rfl rfl), range4, pick4]
    exact ⟨by rw [expA, e]; rfl, fun j hj => by rw [upd_ne _ _ (by omega)]; exact o7 j hj⟩
  have c2 : ¬ 33 < ((s : Nat) : Int) := by omega
  obtain ⟨x, ex⟩ : ∃ x, x = expX c % b256 := ⟨_, rfl⟩
  have hx : x < b256 := by rw [ex]; exact Nat.mod_lt _ (by decide)
  by_cases c1 : s < 3
  case' pos =>
    have c1i : ((s : Nat) : Int) < 3 := by omega
    have q2 : IntKind.i64.wrap (8 * IntKind.i64.wrap (3 - ((s : Nat) : Int))) = ((8 * (3 - s) : Nat) : Int) := by rw [w64 (n := 3 - ((s : Nat) : Int)) (by omega) (by omega), w64 (by omega) (by omega)]; omega
    have hxr : rightV m ((8 * (3 - s) : Nat) : Int) = x := by
      unfold rightV
      rw [if_neg (by omega), Int.toNat_natCast, ex]
      unfold expX
      rw [← es, ← em, if_pos c1, Nat.mod_eq_of_lt]
      exact Nat.lt_of_le_of_lt (Nat.div_le_self _ _) hmb
    simp only [core1, fgr, execOp, opd, ofValue, putT, put, nth, forgetL, bor, binInt, shiftB, intOp, decide_true, c1i]
    rw [opv_rd (k5.all ti25 rfl rfl), range4]
    simp only [core1, hkr, execOp, opd, opds, ofValue, putT, put, nth, doCall, callV_func, bor, binInt, shiftB, intOp, wrapI, List.nil_append, List.append_nil, decide_true, q2]
    refine opv_callf f7 (f51 m ((8 * (3 - s) : Nat) : Int) _ _ hmb f7) fun v8 h8 n8 hn8 f8 ⟨e8, o8⟩ => ?_
    subst e8
    rw [hxr]
    simp only [core1, execOp, opd, putT, put, nth, W]
    refine opv_all4 (k7.keep (o8 _ (by omega))) ti25 rfl fun b8 k8 => ?_
    have k8 := pick_wd k8
    have k2 := (k2.keep (o8 _ (by omega))).upd (i := n6) (b := some b8) (by omega)
    have o8 : Old h (upd h8 n6 (some b8)) n := fun j hj => by rw [upd_ne _ _ (by omega), o8 j (by omega)]; exact o7 j hj
    have f8 : Free (upd h8 n6 (some b8)) n8 := f8.upd (by omega)
    generalize upd h8 n6 (some b8) = H8 at *
    simp only [core1, fgr, execOp, opd, ofValue, putT, put, nth, forgetL, bor, binInt, shiftB, intOp, gt_iff_lt, decide_true, decide_false, c2]
  case' neg =>
    have c1i : ¬ ((s : Nat) : Int) < 3 := by omega
    have hxl : leftV m (8 * (((s : Nat) : Int) - 3)) = x := by
      rw [ex]
      unfold expX
      rw [← es, ← em, if_neg c1]
      unfold leftV
      by_cases q : s = 3
      · rw [if_pos (by omega), q, Nat.sub_self, Nat.mul_zero, Nat.pow_zero, Nat.mul_one, Nat.mod_eq_of_lt hmb]
      · rw [if_neg (by omega), show (8 * (((s : Nat) : Int) - 3)).toNat = 8 * (s - 3) by omega]
    rw [hxl] at k7
    have k8 := k7
    obtain ⟨n8, en8⟩ : ∃ n8, n8 = n6 + 1 := ⟨_, rfl⟩
    have hn8 : n6 + 1 ≤ n8 := by omega
    have f8 := f7
    have o8 := o7
    rw [← en8] at f8 ⊢
    generalize H7 = H8 at *
    simp only [core1, fgr, execOp, opd, ofValue, putT, put, nth, forgetL, bor, binInt, shiftB, intOp, gt_iff_lt, decide_true, decide_false, c1i, c2]
  all_goals
    rw [opv_rd (k8.all ti25 rfl rfl), range4]
    simp only [core1, hkr, execOp, opd, opds, putT, put, nth, doCall, callV_func, List.nil_append, List.append_nil]
    refine opv_callf f8 (f15 x _ _ hx f8) fun v9 h9 n9 hn9 f9 ⟨e9, o9⟩ => ?_
    subst e9
    have k8 := k8.keep (o9 _ (by omega))
    have k2 := k2.keep (o9 _ (by omega))
    have o9 : Old h h9 n := fun j hj => by rw [o9 j (by omega)]; exact o8 j hj
    by_cases x0 : x = 0
    · have e : expV c = none := expV_no fun l1 l2 _ => l2 (by rw [ex, Nat.mod_eq_of_lt l1] at x0; exact x0)
      simp only [compA, if_pos x0]
      simp (disch := omega) only [core1, tyr, fgr, execOp, opd, ofValue, ops2, putT, put, nth, forgetL, sizeOf, bor, binInt, shiftB, intOp, doPick, branch, cel, extract, getO, List.getElem?_cons_succ, List.getElem?_cons_zero, int_bne, Int.reduceEq, not_false_eq_true, decide_true, build, fill]
      refine opv_all4 k2 ti25 rfl fun bb hbb => ?_
      simp only [core1, fgr, execOp, opd, ofValue, putT, put, nth, forgetL, true_and, wp_pure, wp_rd (hbb.all ti25 rfl rfl), range4, pick4]
      exact ⟨by rw [expA, e]; rfl, fun j hj => by rw [upd_ne _ _ (by omega)]; exact o9 j hj⟩
    simp only [compA, if_neg x0]
    by_cases ce : compV x = c
    · have hX : x = expX c := by
        rw [ex, Nat.mod_eq_of_lt]
        by_cases c1 : s < 3
        · unfold expX
          rw [← es, ← em, if_pos c1]
          exact Nat.lt_of_le_of_lt (Nat.div_le_self _ _) hmb
        · exact exp_trunc hx ce (by omega) ex
      have e := expV_x hX hx x0 ce
      simp only [core1, fgr, execOp, opd, ofValue, putT, put, nth, forgetL, bor, binInt, shiftB, intOp, doPick, branch, extract, getO, List.getElem?_cons_succ, List.getElem?_cons_zero, decide_true, bne_self_eq_false, ce]
      rw [opv_rd (k8.all ti25 rfl rfl), range4]
      simp only [core1, execOp, opd, putT, put, nth]
      refine opv_all4 k2 ti25 rfl fun bb hbb => ?_
      simp only [core1, fgr, execOp, opd, ofValue, putT, put, nth, forgetL, true_and, wp_pure, wp_rd (hbb.all ti25 rfl rfl), range4, pick4]
      exact ⟨by rw [expA, e]; rfl, fun j hj => by rw [upd_ne _ _ (by omega)]; exact o9 j hj⟩
    · have e : expV c = none := expV_no fun l1 l2 l3 => ce (by rw [ex, Nat.mod_eq_of_lt l1]; exact l3)
      have cei : ¬ ((compV x : Nat) : Int) = ((c : Nat) : Int) := by omega
      simp (disch := omega) only [core1, tyr, fgr, execOp, opd, ofValue, ops2, putT, put, nth, forgetL, sizeOf, bor, binInt, shiftB, intOp, doPick, branch, cel, extract, getO, List.getElem?_cons_succ, List.getElem?_cons_zero, int_bne, not_false_eq_true, decide_true, bne_self_eq_false, build, fill, cei]
      refine opv_all4 k2 ti25 rfl fun bb hbb => ?_
      simp only [core1, fgr, execOp, opd, ofValue, putT, put, nth, forgetL, true_and, wp_pure, wp_rd (hbb.all ti25 rfl rfl), range4, pick4]
      exact ⟨by rw [expA, e]; rfl, fun j hj => by rw [upd_ne _ _ (by omega)]; exact o9 j hj⟩
/- The work of a target: the program's. -/
def workV (t : Nat) : Nat := b256 / (t + 1)
def workA (t : Nat) : AVal := if t = 0 then .tup [W 0, .int .i64 50] else .tup [W (workV t), .int .i64 0]
theorem workV_lt {t : Nat} (h : t ≠ 0) : workV t < b256 := Nat.div_lt_self (by decide) (by omega)
theorem workV_div {t : Nat} (h : t < b256) : (b256 - 1 - t) / (t + 1) + 1 = workV t := by
  unfold workV
  rw [← Nat.add_div_right _ (by omega : 0 < t + 1)]
  congr 1
  omega
theorem W0 : W 0 = .agg [.int .u64 0, .int .u64 0, .int .u64 0, .int .u64 0] := rfl
set_option maxHeartbeats 4000000 in
theorem f23 (t : Nat) (h : Hp) (n : Nat) (ht : t < b256) (hf : Free h n) : Wp (callI env (evalW env) 23 [W t]) h n fun v' h' n' => v' = workA t ∧ Old h h' n := by
  refine wp_callI ff23 fi23 ?_
  have kb : Arr .u64 (upd (upd h n (some (Blk.row (Cont.l [AVal.int IntKind.u64 (wd t 0 : Nat), AVal.int IntKind.u64 (wd t 1 : Nat), AVal.int IntKind.u64 (wd t 2 : Nat), AVal.int IntKind.u64 (wd t 3 : Nat)]) 25))) (n + 1) (some (Blk.row (Cont.l [AVal.int IntKind.u64 0, AVal.int IntKind.u64 0, AVal.int IntKind.u64 0, AVal.int IntKind.u64 0]) 25))) n 4 (fun j => (wd t j : Nat)) := arr_W (by rw [upd_ne _ _ (by omega)]; exact upd_same _ _ _)
  have k2 : Arr .u64 (upd (upd h n (some (Blk.row (Cont.l [AVal.int IntKind.u64 (wd t 0 : Nat), AVal.int IntKind.u64 (wd t 1 : Nat), AVal.int IntKind.u64 (wd t 2 : Nat), AVal.int IntKind.u64 (wd t 3 : Nat)]) 25))) (n + 1) (some (Blk.row (Cont.l [AVal.int IntKind.u64 0, AVal.int IntKind.u64 0, AVal.int IntKind.u64 0, AVal.int IntKind.u64 0]) 25))) (n + 1) 4 (fun _ => 0) := arr_0 (upd_same _ _ _)
  simp only [fu23, Try.f23, Option.getD_some, List.replicate, core1, tyr, fgr, execOp, opd, ofValue, putT, put, nth, forgetL, zeroOf, cel, alloc, doAlloc, newRow, ended, resultOf, oneOrTup, List.cons_append, List.nil_append, List.length_cons, List.length_nil, Nat.reduceSub, Nat.zero_add, W]
  have oh : Old h (upd (upd h n (some (Blk.row (Cont.l [AVal.int IntKind.u64 (wd t 0 : Nat), AVal.int IntKind.u64 (wd t 1 : Nat), AVal.int IntKind.u64 (wd t 2 : Nat), AVal.int IntKind.u64 (wd t 3 : Nat)]) 25))) (n + 1) (some (Blk.row (Cont.l [AVal.int IntKind.u64 0, AVal.int IntKind.u64 0, AVal.int IntKind.u64 0, AVal.int IntKind.u64 0]) 25))) n := fun j hj => by rw [upd_ne _ _ (by omega), upd_ne _ _ (by omega)]
  have f0 := (hf.new (b := some (Blk.row (Cont.l [AVal.int IntKind.u64 (wd t 0 : Nat), AVal.int IntKind.u64 (wd t 1 : Nat), AVal.int IntKind.u64 (wd t 2 : Nat), AVal.int IntKind.u64 (wd t 3 : Nat)]) 25))).new (b := some (Blk.row (Cont.l [AVal.int IntKind.u64 0, AVal.int IntKind.u64 0, AVal.int IntKind.u64 0, AVal.int IntKind.u64 0]) 25))
  generalize upd (upd h n (some (Blk.row (Cont.l [AVal.int IntKind.u64 (wd t 0 : Nat), AVal.int IntKind.u64 (wd t 1 : Nat), AVal.int IntKind.u64 (wd t 2 : Nat), AVal.int IntKind.u64 (wd t 3 : Nat)]) 25))) (n + 1) (some (Blk.row (Cont.l [AVal.int IntKind.u64 0, AVal.int IntKind.u64 0, AVal.int IntKind.u64 0, AVal.int IntKind.u64 0]) 25)) = H0 at *
  rw [opv_rd (kb.all ti25 rfl rfl), range4]
  simp only [core1, hkr, execOp, opd, opds, putT, put, nth, doCall, callV_func, List.nil_append, List.append_nil]
  refine opv_callf f0 (f39 t _ _ ht) fun v1 h1 n1 hn1 f1 ⟨e1, o1⟩ => ?_
  subst e1
  have kb := kb.keep (o1 _ (by omega))
  have k2 := k2.keep (o1 _ (by omega))
  have oh : Old h h1 n := fun j hj => by rw [o1 j (by omega)]; exact oh j hj
  by_cases h0 : t = 0
  · simp (disch := omega) only [core1, tyr, fgr, execOp, opd, ops2, putT, put, nth, forgetL, sizeOf, cel, getO, decide_true, build, fill, h0]
    refine opv_all4 k2 ti25 rfl fun bb hbb => ?_
    simp only [core1, fgr, execOp, opd, ofValue, putT, put, nth, forgetL, true_and, wp_pure, wp_rd (hbb.all ti25 rfl rfl), range4, pick4]
    exact ⟨by rw [workA, if_pos rfl]; rfl, fun j hj => by rw [upd_ne _ _ (by omega)]; exact oh j hj⟩
  simp only [core1, fgr, hkr, execOp, opd, opds, ofValue, putT, put, nth, forgetL, doCall, callV_func, List.nil_append, List.append_nil, decide_false, h0]
  have hwA : workA t = .tup [W (workV t), .int .i64 0] := if_neg h0
  refine opv_callf f1 (f19 1 _ _ (by decide)) fun v2 h2 n2 hn2 f2 ⟨e2, o2⟩ => ?_
  subst e2
  simp only [core1, tyr, execOp, opd, putT, put, nth, zeroOf, cel, alloc, doAlloc, newRow, W]
  refine opv_all4 (arr_0 (upd_same _ _ _)) ti25 rfl fun b4 k4 => ?_
  have k4 := pick_wd k4
  have s4 : ∀ j, j < n2 → (upd (upd h2 n2 (some (Blk.row (Cont.l [AVal.int IntKind.u64 0, AVal.int IntKind.u64 0, AVal.int IntKind.u64 0, AVal.int IntKind.u64 0]) 25))) n2 (some b4)) j = h2 j := fun j hj => by rw [upd_ne _ _ (by omega), upd_ne _ _ (by omega)]
  have f4 : Free (upd (upd h2 n2 (some (Blk.row (Cont.l [AVal.int IntKind.u64 0, AVal.int IntKind.u64 0, AVal.int IntKind.u64 0, AVal.int IntKind.u64 0]) 25))) n2 (some b4)) (n2 + 1) := f2.new.upd (by omega)
  generalize upd (upd h2 n2 (some (Blk.row (Cont.l [AVal.int IntKind.u64 0, AVal.int IntKind.u64 0, AVal.int IntKind.u64 0, AVal.int IntKind.u64 0]) 25))) n2 (some b4) = H4 at *
  have kb := (kb.keep (o2 _ (by omega))).keep (s4 _ (by omega))
  have k2 := (k2.keep (o2 _ (by omega))).keep (s4 _ (by omega))
  have oh : Old h H4 n := fun j hj => by rw [s4 j (by omega), o2 j (by omega)]; exact oh j hj
  simp only [core1, fgr, execOp, opd, putT, nth, forgetL]
  rw [opv_rd (kb.all ti25 rfl rfl), range4]
  simp only [core1, execOp, opd, putT, put, nth]
  rw [opv_rd (k4.all ti25 rfl rfl), range4]
  simp only [core1, hkr, execOp, opd, opds, putT, put, nth, doCall, callV_func, List.nil_append, List.append_nil]
  refine opv_callf f4 (f27 t 1 _ _ ht (by decide) f4) fun v5 h5 n5 hn5 f5 ⟨e5, o5⟩ => ?_
  subst e5
  simp only [core1, tyr, execOp, opd, putT, put, nth, zeroOf, cel, alloc, doAlloc, newRow, extract, getO, List.getElem?_cons_succ, List.getElem?_cons_zero, W]
  refine opv_all4 (arr_0 (upd_same _ _ _)) ti25 rfl fun b5 k5 => ?_
  have k5 := pick_wd k5
  have s5 : ∀ j, j < n5 → (upd (upd h5 n5 (some (Blk.row (Cont.l [AVal.int IntKind.u64 0, AVal.int IntKind.u64 0, AVal.int IntKind.u64 0, AVal.int IntKind.u64 0]) 25))) n5 (some b5)) j = h5 j := fun j hj => by rw [upd_ne _ _ (by omega), upd_ne _ _ (by omega)]
  have f6 : Free (upd (upd h5 n5 (some (Blk.row (Cont.l [AVal.int IntKind.u64 0, AVal.int IntKind.u64 0, AVal.int IntKind.u64 0, AVal.int IntKind.u64 0]) 25))) n5 (some b5)) (n5 + 1) := f5.new.upd (by omega)
  generalize upd (upd h5 n5 (some (Blk.row (Cont.l [AVal.int IntKind.u64 0, AVal.int IntKind.u64 0, AVal.int IntKind.u64 0, AVal.int IntKind.u64 0]) 25))) n5 (some b5) = H5 at *
  have kb := (kb.keep (o5 _ (by omega))).keep (s5 _ (by omega))
  have k2 := (k2.keep (o5 _ (by omega))).keep (s5 _ (by omega))
  have k4 := (k4.keep (o5 _ (by omega))).keep (s5 _ (by omega))
  have oh : Old h H5 n := fun j hj => by rw [s5 j (by omega), o5 j (by omega)]; exact oh j hj
  by_cases c : b256 ≤ t + 1
  · have cd := decide_eq_true c
    have e : workV t = 1 := by unfold workV; rw [show t + 1 = b256 by omega]; decide
    simp only [core1, fgr, execOp, opd, putT, put, nth, forgetL, cd]
    rw [opv_rd (k4.all ti25 rfl rfl), range4]
    simp only [core1, execOp, opd, putT, put, nth]
    refine opv_all4 k2 ti25 rfl fun bb hbb => ?_
    simp only [core1, fgr, execOp, opd, ofValue, putT, put, nth, forgetL, true_and, wp_pure, wp_rd (hbb.all ti25 rfl rfl), range4, pick4]
    exact ⟨by rw [hwA, e]; rfl, fun j hj => by rw [upd_ne _ _ (by omega)]; exact oh j hj⟩
  have cd := decide_eq_false c
  have ht1 : t + 1 < b256 := by omega
  rw [Nat.mod_eq_of_lt ht1] at k5
  have hnt : b256 - 1 - t < b256 := by omega
  have hq : (if t + 1 = 0 then 0 else (b256 - 1 - t) / (t + 1)) = (b256 - 1 - t) / (t + 1) := if_neg (by omega)
  have hwv := workV_div ht
  have hwl := workV_lt h0
  simp only [core1, fgr, execOp, opd, putT, put, nth, forgetL, cd]
  refine run_draw.2 ⟨rfl, ?_⟩
  simp only [fe_cons, execOp, opd, nth]
  rw [fev_rd (kb.all ti25 rfl rfl), range4]
  simp only [fe_cons, hkr, execOp, opd, opds, putT, put, nth, doCall, callV_func, List.nil_append, List.append_nil, Nat.zero_add]
  refine fev_free f6 (f38 t _ _ ht Free.none) (f38 t _ _ ht f6) fun v3 g3 m3 hm3 hg3 ⟨e3, x3⟩ => ?_
  subst e3
  simp only [fe_cons, execOp, opd, putT, put, nth, Nat.reduceAdd]
  rw [fev_rd ((k5.keep (x3 _ (by omega))).all ti25 rfl rfl), range4]
  simp only [fe_cons, hkr, execOp, opd, opds, putT, put, nth, doCall, callV_func, List.nil_append, List.append_nil, Nat.reduceAdd]
  refine fev_free hg3 (f34 _ (t + 1) _ _ hnt ht1 Free.none) (f34 _ (t + 1) _ _ hnt ht1 hg3) fun v4 g4 m4 hm4 hg4 ⟨e4, x4⟩ => ?_
  subst e4
  simp only [fe_cons, fev_pure, core1, tyr, execOp, opd, putT, put, nth, zeroOf, cel, alloc, doAlloc, newRow, extract, getO, List.getElem?_cons_succ, List.getElem?_cons_zero, Nat.reduceAdd, ↓reduceIte, reduceCtorEq, W]
  refine fev_free hg4 (al25 _ _) (al25 _ _) fun v5 g5 m5 hm5 hg5 ⟨e5, a5, x5, em5⟩ => ?_
  subst e5; subst em5
  simp only [fe_cons, core1, tyr, execOp, putT, put, zeroOf, cel, alloc, doAlloc, newRow, Nat.reduceAdd]
  refine fev_free hg5 (al25 _ _) (al25 _ _) fun v6 g6 m6 hm6 hg6 ⟨e6, a6, x6, em6⟩ => ?_
  subst e6; subst em6
  simp only [fe_cons, execOp, opd, putT, put, nth, Nat.reduceAdd]
  refine fev_all4 (a5.keep (x6 _ (by omega))) ti25 rfl fun b9 l10 => ?_
  simp only [fe_cons, execOp, opd, putT, nth, Nat.reduceAdd]
  refine fev_all4 (a6.upd (by omega)) ti25 rfl fun b10 l11 => ?_
  simp only [fe_nil, fe_cons, fev_pure, core1, fgr, execOp, opd, putT, put, nth, forgetL, Nat.reduceAdd]
  refine ⟨(by (try simp (disch := omega) only [fine, List.all_cons, List.all_nil, clash_pl, clash_pr, clash_rr, Bool.not_false, Bool.true_or, Bool.and_true, Bool.true_and, clash_rw, clash_ww, clash_nn, clash_nw, clash_xn, clash_nx]); repeat' (first | rfl | exact (Bool.or_eq_true _ _).mpr (.inr rfl) | refine (Bool.and_eq_true _ _).mpr ⟨?_, ?_⟩)), ?_⟩
  have k7 := (pick_wd l10).upd (i := m4 + 1) (b := some b10) (by omega)
  have s7 : ∀ j, j < n5 + 1 → (upd (upd g6 m4 (some b9)) (m4 + 1) (some b10)) j = H5 j := fun j hj => by
    rw [upd_ne _ _ (by omega), upd_ne _ _ (by omega), x6 j (by omega), x5 j (by omega), x4 j (by omega), x3 j (by omega)]
  have f7 : Free (upd (upd g6 m4 (some b9)) (m4 + 1) (some b10)) (m4 + 1 + 1) := (hg6.upd (by omega)).upd (by omega)
  generalize upd (upd g6 m4 (some b9)) (m4 + 1) (some b10) = H7 at *
  have k2 := k2.keep (s7 _ (by omega))
  have k4 := k4.keep (s7 _ (by omega))
  have oh : Old h H7 n := fun j hj => by rw [s7 j (by omega)]; exact oh j hj
  rw [opv_rd (k7.all ti25 rfl rfl), range4]
  simp only [core1, execOp, opd, putT, put, nth]
  rw [opv_rd (k4.all ti25 rfl rfl), range4]
  simp only [core1, hkr, execOp, opd, opds, putT, put, nth, doCall, callV_func, List.nil_append, List.append_nil]
  refine opv_callf f7 (f27 ((b256 - 1 - t) / (t + 1)) 1 _ _ (by omega) (by decide) f7) fun v8 h8 n8 hn8 f8 ⟨e8, o8⟩ => ?_
  subst e8
  rw [hwv, Nat.mod_eq_of_lt hwl]
  have k2 := k2.keep (o8 _ (by omega))
  have oh : Old h h8 n := fun j hj => by rw [o8 j (by omega)]; exact oh j hj
  simp only [core1, tyr, execOp, opd, putT, put, nth, zeroOf, cel, alloc, doAlloc, newRow, extract, getO, List.getElem?_cons_succ, List.getElem?_cons_zero, W]
  refine opv_all4 (arr_0 (upd_same _ _ _)) ti25 rfl fun b8 k8 => ?_
  have k8 := pick_wd k8
  simp only [core1, fgr, execOp, opd, putT, put, nth, forgetL]
  rw [opv_rd (k8.all ti25 rfl rfl), range4]
  simp only [core1, execOp, opd, putT, put, nth]
  refine opv_all4 ((k2.upd (by omega)).upd (by omega)) ti25 rfl fun bb hbb => ?_
  simp only [core1, fgr, execOp, opd, ofValue, putT, put, nth, forgetL, true_and, wp_pure, wp_rd (hbb.all ti25 rfl rfl), range4, pick4]
  exact ⟨by rw [hwA]; rfl, fun j hj => by simp (disch := omega) only [upd_ne]; exact oh j hj⟩
/- The number of bytes; whether a hash is below: the program's. -/
theorem t47 : und env 47 = M.pure (.array 32 5) := rfl
/-- The number whose lowest byte stands first. -/
def leN (g : Nat → Nat) : Nat → Nat
  | 0 => 0
  | m + 1 => leN g m + g m * 2 ^ (8 * m)
theorem leN_lt (g : Nat → Nat) (m : Nat) (hg : ∀ j, j < m → g j < 256) : leN g m < 2 ^ (8 * m) := by
  induction m with
  | zero => exact Nat.one_pos
  | succ m ih =>
    have h1 := ih fun j hj => hg j (by omega)
    have h2 := hg m (by omega)
    rw [leN, show 8 * (m + 1) = 8 * m + 8 by omega, Nat.pow_add]
    calc _ < 2 ^ (8 * m) + g m * 2 ^ (8 * m) := Nat.add_lt_add_right h1 _
      _ = (g m + 1) * 2 ^ (8 * m) := by rw [Nat.add_mul, Nat.one_mul, Nat.add_comm]
      _ ≤ 256 * 2 ^ (8 * m) := Nat.mul_le_mul_right _ (by omega)
      _ = _ := Nat.mul_comm _ _
theorem byte_or (X b i j : Nat) (hX : X < 2 ^ (8 * i)) (hb : b < 256) : wd (X + b * 2 ^ (8 * i)) j = if j = i / 8 then wd X j ||| (b * 2 ^ (i % 8 * 8)) else wd X j := by
  have h1 : X + b * 2 ^ (8 * i) = b * 2 ^ (8 * i) ||| X := by rw [or_low _ X (8 * i) (Nat.mul_mod_left _ _) hX, Nat.add_comm]
  rw [h1, Nat.or_comm]
  have wor : wd (X ||| b * 2 ^ (8 * i)) j = wd X j ||| wd (b * 2 ^ (8 * i)) j := by
    unfold wd
    rw [show (18446744073709551616 : Nat) = 2 ^ 64 from rfl, Nat.or_div_two_pow, Nat.or_mod_two_pow]
  have hs : i % 8 < 8 := Nat.mod_lt _ (by decide)
  have hl : b * 2 ^ (i % 8 * 8) < 18446744073709551616 := by
    calc b * 2 ^ (i % 8 * 8) < 256 * 2 ^ (i % 8 * 8) := (Nat.mul_lt_mul_right (Nat.two_pow_pos _)).2 hb
      _ ≤ 256 * 2 ^ 56 := Nat.mul_le_mul_left _ (Nat.pow_le_pow_right (by decide) (by omega))
      _ = _ := rfl
  have e : b * 2 ^ (8 * i) = b * 2 ^ (i % 8 * 8) * 2 ^ (64 * (i / 8)) := by
    rw [Nat.mul_assoc, ← Nat.pow_add]; congr 2; omega
  have wb : wd (b * 2 ^ (8 * i)) j = if j = i / 8 then b * 2 ^ (i % 8 * 8) else 0 := by
    rw [e]
    unfold wd
    by_cases h : j = i / 8
    · subst h
      rw [if_pos rfl, Nat.mul_div_cancel _ (Nat.two_pow_pos _), Nat.mod_eq_of_lt hl]
    · rw [if_neg h]
      by_cases h2 : j < i / 8
      · rw [show 64 * (i / 8) = (64 * (i / 8 - j - 1) + 64) + 64 * j by omega, Nat.pow_add, ← Nat.mul_assoc, Nat.mul_div_cancel _ (Nat.two_pow_pos _), Nat.pow_add, ← Nat.mul_assoc]
        exact Nat.mul_mod_left _ _
      · rw [Nat.div_eq_of_lt, Nat.zero_mod]
        calc b * 2 ^ (i % 8 * 8) * 2 ^ (64 * (i / 8)) < 2 ^ 64 * 2 ^ (64 * (i / 8)) := (Nat.mul_lt_mul_right (Nat.two_pow_pos _)).2 hl
          _ = 2 ^ (64 + 64 * (i / 8)) := (Nat.pow_add _ _ _).symm
          _ ≤ _ := Nat.pow_le_pow_right (by decide) (by omega)
  rw [wor, wb]
  by_cases h : j = i / 8
  · rw [if_pos h, if_pos h]
  · rw [if_neg h, if_neg h, Nat.or_zero]
theorem loop54 (Q : Post0) (ks : List Kf) (g : Nat → Nat) (hg : ∀ j, j < 32 → g j < 256) (v : AVal) (p2 p3 : AVal) (i4 iv n : Nat) (d : i4 ≠ iv) (h0 : Hp)
    (hq : ∀ (h : Hp) (x0 x5 x6 x9 x11 x12 x13 x14 : AVal), Arr .u64 h i4 4 (fun j => (wd (leN g 32) j : Nat)) → (∀ j, j ≠ i4 → h j = h0 j) → Kont env 54 none Q ks (.exit 0) (x0 :: AVal.junk :: p2 :: p3 :: .ptr i4 0 :: x5 :: x6 :: AVal.junk :: AVal.junk :: x9 :: AVal.junk :: x11 :: x12 :: x13 :: x14 :: AVal.junk :: AVal.junk :: AVal.junk :: AVal.junk :: AVal.junk :: AVal.junk :: AVal.junk :: AVal.junk :: AVal.junk :: AVal.junk :: AVal.junk :: AVal.junk :: AVal.junk :: AVal.junk :: AVal.junk :: AVal.junk :: AVal.junk :: []) h n) :
    ∀ (k i : Nat) (h : Hp) (x0 x5 x6 x9 x14 : AVal), i + k = 32 → Arr .u64 h i4 4 (fun j => (wd (leN g i) j : Nat)) → Nums .u8 h v iv 0 32 32 (fun j => (g j : Nat)) → (∀ j, j ≠ i4 → h j = h0 j) → i4 < n → Free h n →
    Run env 54 none Q (.loop lp54_0) ks (x0 :: AVal.junk :: p2 :: p3 :: .ptr i4 0 :: x5 :: x6 :: AVal.junk :: AVal.junk :: x9 :: AVal.junk :: v :: .int .i64 32 :: .int .i64 (i : Nat) :: x14 :: AVal.junk :: AVal.junk :: AVal.junk :: AVal.junk :: AVal.junk :: AVal.junk :: AVal.junk :: AVal.junk :: AVal.junk :: AVal.junk :: AVal.junk :: AVal.junk :: AVal.junk :: AVal.junk :: AVal.junk :: AVal.junk :: AVal.junk :: []) h n := by
  intro k
  induction k with
  | zero =>
    intro i h x0 x5 x6 x9 x14 hi ha hv hk b4 hf
    have : i = 32 := by omega
    subst this
    have hc : ¬ ((32 : Nat) : Int) < 32 := by decide
    rw [run_loop]
    simp only [lp54_0, loopsOf, Try.f54, Option.getD_some, core1, fgr, execOp, opd, putT, put, nth, forgetL, bor, binInt, shiftB, intOp, List.nil_append, List.append_nil, Int.cast_ofNat_Int, Int.reduceLT, decide_true, decide_false, List.getD_cons_zero]
    exact hq h _ _ _ _ _ _ _ _ ha hk
  | succ k ih =>
    intro i h x0 x5 x6 x9 x14 hi ha hv hk b4 hf
    have h4 : i < 32 := by omega
    have hc : ((i : Nat) : Int) < 32 := by omega
    have hw : IntKind.i64.wrap (((i : Nat) : Int) + 1) = ((i + 1 : Nat) : Int) := by rw [w64 (by omega) (by omega)]; omega
    have q1 : IntKind.i64.wrap (Int.tdiv ((i : Nat) : Int) 8) = ((i / 8 : Nat) : Int) := by rw [Int.tdiv_eq_ediv_of_nonneg (by omega), w64 (by omega) (by omega)]; omega
    have q2 : IntKind.i64.wrap (Int.tmod ((i : Nat) : Int) 8 * 8) = ((i % 8 * 8 : Nat) : Int) := by rw [Int.tmod_eq_emod_of_nonneg (by omega), w64 (by omega) (by omega)]; omega
    have h64 : i / 8 < 4 := by omega
    have h0r : (0 : Int) ≤ ((i % 8 * 8 : Nat) : Int) := by omega
    have hb := hg i h4
    have hX := leN_lt g i fun j hj => hg j (by omega)
    have bo := fun j => byte_or (leN g i) (g i) i j hX hb
    have hlt : g i * 2 ^ (i % 8 * 8) < 18446744073709551616 := by
      calc g i * 2 ^ (i % 8 * 8) < 256 * 2 ^ (i % 8 * 8) := (Nat.mul_lt_mul_right (Nat.two_pow_pos _)).2 hb
        _ ≤ 256 * 2 ^ 56 := Nat.mul_le_mul_left _ (Nat.pow_le_pow_right (by decide) (by omega))
        _ = _ := rfl
    have cv : IntKind.u64.wrap ((g i : Nat) : Int) = ((g i : Nat) : Int) := wu64 (by omega) (by omega)
    have sh := ushl (g i) (i % 8 * 8) (by omega)
    rw [Nat.mod_eq_of_lt hlt] at sh
    rw [run_loop]
    simp only [lp54_0, loopsOf, Try.f54, Option.getD_some, core1, fgr, execOp, opd, putT, put, nth, forgetL, bor, binInt, shiftB, intOp, List.nil_append, List.append_nil, decide_true, List.getD_cons_zero, hc]
    rw [opv_rd (hv.idx0 t86 s5 rfl h4)]
    simp only [core1, execOp, opd, putT, put, nth]
    rw [opv_rd (hv.load0 ti5 rfl h4)]
    simp only [core1, fgr, execOp, opd, putT, put, nth, forgetL]
    refine run_draw.2 ⟨rfl, ?_⟩
    simp only [fe_cons, fev_ob, fev_pure, execOp, opd, ofValue, putT, put, nth, bor, binInt, shiftB, intOp, wrapI, Nat.reduceAdd, Int.reduceNe, decide_true, true_and, Nat.zero_add, q1]
    rw [fev_rd (arr_idx t25 s23 rfl h64)]
    simp only [fe_cons, execOp, opd, putT, put, nth, Nat.reduceAdd]
    rw [fev_rd (ha.load ti23 rfl h64)]
    simp only [fe_cons, fev_ob, fev_pure, core1, tyr, execOp, opd, ofValue, putT, put, nth, und, lenOf, bor, binInt, shiftB, shiftOp, intOp, wrapI, strK, intK, Nat.reduceAdd, Int.reduceNe, decide_true, true_and, convert, convStr, isU8, cv, q2, h0r, sh, uor (wd_lt _ _) hlt]
    rw [fev_rd (arr_idx t25 s23 rfl h64)]
    simp only [fe_cons, execOp, opd, putT, put, nth, Nat.reduceAdd]
    refine fev_st ha ti23 rfl h64 fun b hb => ?_
    simp only [fe_nil, core1, fgr, execOp, opd, ofValue, putT, put, nth, forgetL, bor, binInt, shiftB, intOp, wrapI, Nat.reduceAdd, decide_true]
    refine ⟨(by (try simp (disch := omega) only [fine, List.all_cons, List.all_nil, clash_pl, clash_pr, clash_rr, Bool.not_false, Bool.true_or, Bool.and_true, Bool.true_and]); repeat' (first | rfl | exact (Bool.or_eq_true _ _).mpr (.inr rfl) | refine (Bool.and_eq_true _ _).mpr ⟨?_, ?_⟩)), ?_⟩
    simp only [hw]
    refine ih (i + 1) _ _ _ _ _ _ (by omega) (hb.ext fun j hj => ?_) (hv.upd (by omega)) (fun j hj => by rw [upd_ne _ _ hj]; exact hk j hj) b4 (hf.upd b4)
    rw [leN, bo]
    by_cases e : j = i / 8
    · simp only [if_pos e]; rw [e]
    · simp only [if_neg e]
theorem f54 (g : Nat → Nat) (hg : ∀ j, j < 32 → g j < 256) (v : AVal) (iv : Nat) (h : Hp) (n : Nat) (hi : iv < n) (hv : Nums .u8 h v iv 0 32 32 (fun j => (g j : Nat))) (hf : Free h n) : Wp (callI env (evalW env) 54 [v]) h n fun v' h' n' => v' = .tup [W (leN g 32), .int .i64 0] ∧ Old h h' n := by
  refine wp_callI ff54 fi54 ?_
  simp only [fu54, Try.f54, Option.getD_some, List.replicate, core1, tyr, fgr, execOp, opd, opds, ofValue, putT, put, nth, forgetL, doCall, builtin, one1, zeroOf, bor, binInt, shiftB, intOp, cel, alloc, doAlloc, newRow, ended, resultOf, oneOrTup, List.cons_append, List.nil_append, List.length_cons, List.length_nil, Nat.reduceSub, Int.cast_ofNat_Int, decide_true, Nat.zero_add, bne_self_eq_false, hv.len t86]
  refine loop54 _ _ g hg v _ _ (n + 1) iv (n + 1 + 1) (by omega) _ ?_ 32 0 _ _ _ _ _ _ rfl ((arr_0 (upd_same _ _ _)).ext fun j hj => ?_) ((hv.upd (by omega)).upd (by omega)) (fun _ _ => rfl) (by omega) hf.new.new
  · intro h' x0 x5 x6 x9 x11 x12 x13 x14 ha hk
    simp only [core1, execOp, opd, nth]
    rw [opv_rd (ha.all ti25 rfl rfl), range4]
    simp only [core1, execOp, opd, putT, put, nth]
    refine opv_all4 (arr_0 (by rw [hk n (by omega), upd_ne _ _ (by omega)]; exact upd_same _ _ _)) ti25 rfl fun bb hbb => ?_
    simp only [core1, fgr, execOp, opd, ofValue, putT, put, nth, forgetL, true_and, wp_pure, wp_rd (hbb.all ti25 rfl rfl), range4, pick4]
    exact ⟨rfl, fun j hj => by rw [upd_ne _ _ (by omega), hk j (by omega), upd_ne _ _ (by omega), upd_ne _ _ (by omega)]⟩
  · rw [leN]
    match j, hj with
    | 0, _ => rfl
    | 1, _ => rfl
    | 2, _ => rfl
    | 3, _ => rfl
set_option maxHeartbeats 1000000 in
theorem f25 (g : Nat → Nat) (hg : ∀ j, j < 32 → g j < 256) (t : Nat) (h : Hp) (n : Nat) (ht : t < b256) (hf : Free h n) : Wp (callI env (evalW env) 25 [.agg (cellsF .u8 32 (fun j => (g j : Nat))), W t]) h n fun v' h' n' => v' = .bool (decide (leN g 32 ≤ t)) ∧ Old h h' n := by
  refine wp_callI ff25 fi25 ?_
  simp only [fu25, Try.f25, Option.getD_some, List.replicate, core1, tyr, fgr, execOp, opd, opt, ofValue, putT, put, nth, forgetL, cel, alloc, newRow, ended, resultOf, oneOrTup, List.cons_append, List.nil_append, List.length_cons, List.length_nil, Nat.reduceAdd, Nat.reduceSub, Nat.zero_add, wp_pure, W]
  rw [opv_rd (arr_slice (l := 0) (hi := 32) t47 s5 (fun k => .inl (bound_none 0 k (Nat.zero_le _))) (bound_none 32 32 (Nat.le_refl _)) (by decide))]
  simp only [core1, hkr, execOp, opd, opds, putT, put, nth, doCall, callV_func, List.nil_append, List.append_nil, Nat.reduceSub]
  refine opv_callf hf.new.new (f54 g hg _ n _ _ (by omega) ⟨⟨_, rfl⟩, by decide, 47, by rw [upd_ne _ _ (by omega)]; exact upd_same _ _ _⟩ hf.new.new) fun v1 h1 n1 hn1 f1 ⟨e1, o1⟩ => ?_
  subst e1
  have hl : leN g 32 < b256 := by rw [p256]; exact leN_lt g 32 hg
  have k3 : Arr .u64 h1 (n + 1) 4 (fun j => (wd t j : Nat)) := (arr_W (upd_same _ _ _)).keep (o1 _ (by omega))
  simp only [core1, tyr, execOp, opd, putT, put, nth, zeroOf, cel, alloc, doAlloc, newRow, extract, getO, List.getElem?_cons_succ, List.getElem?_cons_zero, W]
  refine opv_all4 (arr_0 (upd_same _ _ _)) ti25 rfl fun b5 k5 => ?_
  have k5 := pick_wd k5
  have f5 : Free (upd (upd h1 n1 (some (Blk.row (Cont.l [AVal.int IntKind.u64 0, AVal.int IntKind.u64 0, AVal.int IntKind.u64 0, AVal.int IntKind.u64 0]) 25))) n1 (some b5)) (n1 + 1) := f1.new.upd (by omega)
  simp only [core1, fgr, execOp, opd, putT, put, nth, forgetL]
  rw [opv_rd (k5.all ti25 rfl rfl), range4]
  simp only [core1, execOp, opd, putT, put, nth]
  rw [opv_rd (((k3.upd (by omega)).upd (by omega)).all ti25 rfl rfl), range4]
  simp only [core1, hkr, execOp, opd, opds, putT, put, nth, doCall, callV_func, List.nil_append, List.append_nil]
  refine opv_callf f5 (f17 (leN g 32) t _ _ hl ht f5) fun v2 h2 n2 hn2 f2 ⟨e2, o2⟩ => ?_
  subst e2
  have hd : decide ((if leN g 32 = t then (0 : Int) else if leN g 32 < t then -1 else 1) ≤ 0) = decide (leN g 32 ≤ t) := by
    by_cases q : leN g 32 = t
    · rw [if_pos q, decide_eq_true (by decide), decide_eq_true (by omega)]
    · rw [if_neg q]
      by_cases q2 : leN g 32 < t
      · rw [if_pos q2, decide_eq_true (by decide), decide_eq_true (by omega)]
      · rw [if_neg q2, decide_eq_false (by decide), decide_eq_false (by omega)]
  simp only [core1, fgr, execOp, opd, ofValue, putT, put, nth, forgetL, bor, binInt, shiftB, intOp, Int.reduceNeg, decide_true, true_and, hd]
  exact fun j hj => by rw [o2 j (by omega), upd_ne _ _ (by omega), upd_ne _ _ (by omega), o1 j (by omega), upd_ne _ _ (by omega), upd_ne _ _ (by omega)]
theorem arr_cells {k : IntKind} {h : Hp} {id m e : Nat} {g : Nat → Int} (hh : h id = some (.row (.l (cellsF k m g)) e)) : Arr k h id m g :=
  ⟨_, e, hh, cellsF_len _ _ _, fun j hj => by
    have h1 := cellsF_get k g hj
    obtain ⟨hl, hx⟩ := List.getElem?_eq_some_iff.1 h1
    rw [Cont.at_l hl, hx]⟩
/- What the statements' helpers answer; how near a form is. -/
theorem f36 (a : Nat) (z : Int) (h : Hp) (n : Nat) (ha : a < 18446744073709551616) (hf : Free h n) : Wp (callI env (evalW env) 36 [.int .u64 (a : Nat), .int .i64 z]) h n fun v' h' n' => v' = W (leftV a z) ∧ Old h h' n := by
  refine wp_callI ff36 fi36 ?_
  have hb : a < b256 := by unfold b256; omega
  simp only [fu36, Try.f36, Option.getD_some, List.replicate, core1, tyr, fgr, hkr, execOp, opd, opds, putT, put, nth, forgetL, doCall, callV_func, zeroOf, cel, alloc, doAlloc, newRow, ended, resultOf, oneOrTup, List.cons_append, List.nil_append, List.append_nil, List.length_cons, List.length_nil, Nat.reduceAdd, Nat.reduceSub, Nat.zero_add]
  refine opv_callf hf.new (f19 a _ _ ha) fun v1 h1 n1 hn1 f1 ⟨e1, o1⟩ => ?_
  subst e1
  simp only [core1, hkr, execOp, opd, opds, putT, put, nth, doCall, callV_func, List.nil_append, List.append_nil]
  refine opv_callf f1 (f20 a z _ _ hb f1) fun v2 h2 n2 hn2 f2 ⟨e2, o2⟩ => ?_
  subst e2
  simp only [core1, execOp, opd, putT, put, nth, W]
  refine opv_all4 (((arr_0 (upd_same _ _ _)).keep (o1 _ (by omega))).keep (o2 _ (by omega))) ti25 rfl fun bb hbb => ?_
  simp only [core1, fgr, putT, nth, forgetL, true_and, wp_pure, wp_rd (hbb.all ti25 rfl rfl), range4, pick4]
  exact fun j hj => by rw [upd_ne _ _ (by omega), o2 j (by omega), o1 j (by omega), upd_ne _ _ (by omega)]
theorem expV_some {c x : Nat} (h : expV c = some x) : x < b256 ∧ x ≠ 0 ∧ compV x = c ∧ x = expX c := by
  unfold expV at h
  split at h
  · rename_i q
    injection h with h
    subst h
    exact ⟨q.1, q.2.1, q.2.2, rfl⟩
  · cases h
theorem f35 (c t : Nat) (h : Hp) (n : Nat) (hc : c < 4294967296) (he : expV c = some t) (hf : Free h n) : Wp (callI env (evalW env) 35 [.int .u32 (c : Nat), W t]) h n fun v' h' n' => v' = .bool true ∧ Old h h' n := by
  refine wp_callI ff35 fi35 ?_
  obtain ⟨lt, t0, cv, _⟩ := expV_some he
  simp only [fu35, Try.f35, Option.getD_some, List.replicate, core1, tyr, fgr, hkr, execOp, opd, opds, ofValue, putT, put, nth, forgetL, doCall, callV_func, cel, alloc, newRow, ended, resultOf, oneOrTup, List.cons_append, List.nil_append, List.append_nil, List.length_cons, List.length_nil, Nat.reduceAdd, Nat.reduceSub, Nat.zero_add, wp_pure, W]
  refine opv_callf hf.new (f16 c _ _ hc hf.new) fun v1 h1 n1 hn1 f1 ⟨e1, o1⟩ => ?_
  subst e1
  have k3 : Arr .u64 h1 n 4 (fun j => (wd t j : Nat)) := (arr_W (upd_same _ _ _)).keep (o1 _ (by omega))
  have oh : Old h h1 n := fun j hj => by rw [o1 j (by omega), upd_ne _ _ (by omega)]
  clear o1
  simp only [expA, he]
  simp only [core1, tyr, execOp, opd, putT, put, nth, zeroOf, cel, alloc, doAlloc, newRow, extract, getO, List.getElem?_cons_succ, List.getElem?_cons_zero, W]
  refine opv_all4 (arr_0 (upd_same _ _ _)) ti25 rfl fun b5 k5 => ?_
  have k5 := pick_wd k5
  have s5 : ∀ j, j < n1 → (upd (upd h1 n1 (some (Blk.row (Cont.l [AVal.int IntKind.u64 0, AVal.int IntKind.u64 0, AVal.int IntKind.u64 0, AVal.int IntKind.u64 0]) 25))) n1 (some b5)) j = h1 j := fun j hj => by rw [upd_ne _ _ (by omega), upd_ne _ _ (by omega)]
  have f5 : Free (upd (upd h1 n1 (some (Blk.row (Cont.l [AVal.int IntKind.u64 0, AVal.int IntKind.u64 0, AVal.int IntKind.u64 0, AVal.int IntKind.u64 0]) 25))) n1 (some b5)) (n1 + 1) := f1.new.upd (by omega)
  generalize (upd (upd h1 n1 (some (Blk.row (Cont.l [AVal.int IntKind.u64 0, AVal.int IntKind.u64 0, AVal.int IntKind.u64 0, AVal.int IntKind.u64 0]) 25))) n1 (some b5)) = H5 at *
  have k3 := k3.keep (s5 _ (by omega))
  have oh : Old h H5 n := fun j hj => by rw [s5 j (by omega)]; exact oh j hj
  simp only [core1, fgr, execOp, opd, putT, put, nth, forgetL]
  rw [opv_rd (k5.all ti25 rfl rfl), range4]
  simp only [core1, hkr, execOp, opd, opds, putT, put, nth, doCall, callV_func, List.nil_append, List.append_nil]
  refine opv_callf f5 (f15 t _ _ lt f5) fun v2 h2 n2 hn2 f2 ⟨e2, o2⟩ => ?_
  subst e2
  have k3 := k3.keep (o2 _ (by omega))
  have k5 := k5.keep (o2 _ (by omega))
  have oh : Old h h2 n := fun j hj => by rw [o2 j (by omega)]; exact oh j hj
  have ee := eq_agg lt lt
  simp only [compA, if_neg t0, cv]
  simp only [core1, fgr, execOp, opd, ofValue, putT, put, nth, forgetL, bor, binInt, shiftB, intOp, extract, getO, List.getElem?_cons_succ, List.getElem?_cons_zero, decide_true, beq_self_eq_true]
  rw [opv_rd (k5.all ti25 rfl rfl), range4]
  simp only [core1, execOp, opd, putT, put, nth, List.getElem?_cons_succ, List.getElem?_cons_zero]
  rw [opv_rd (k3.all ti25 rfl rfl), range4]
  simp only [core1, fgr, execOp, opd, ofValue, putT, put, nth, forgetL, bor, binInt, binOther, shiftB, intOp, doPick, branch, List.getElem?_cons_succ, List.getElem?_cons_zero, decide_true, true_and, beq_self_eq_true, ee, decide_true]
  exact oh
theorem alive_t : leftV 65535 208 = 65535 * 2 ^ 208 := by decide +kernel
theorem alive_e : expV 486604799 = some (65535 * 2 ^ 208) := by decide +kernel
theorem alive_w : workV (65535 * 2 ^ 208) = 4295032833 := by decide +kernel
theorem f14 (h : Hp) (n : Nat) (hf : Free h n) : Wp (callI env (evalW env) 14 []) h n fun v' h' n' => v' = .bool true ∧ Old h h' n := by
  refine wp_callI ff14 fi14 ?_
  have ll : 65535 * 2 ^ 208 < b256 := by decide +kernel
  have l0 : 65535 * 2 ^ 208 ≠ 0 := by decide +kernel
  simp only [fu14, Try.f14, Option.getD_some, List.replicate, core1, fgr, hkr, execOp, opd, opds, ofValue, putT, put, forgetL, doCall, callV_func, ended, resultOf, oneOrTup, List.nil_append, List.append_nil, List.length_nil, Nat.reduceSub, wp_pure]
  refine opv_callf hf (f36 65535 208 _ _ (by decide) hf) fun v1 h1 n1 hn1 f1 ⟨e1, o1⟩ => ?_
  subst e1
  rw [alive_t]
  obtain ⟨T, eT⟩ : ∃ T, T = 65535 * 2 ^ 208 := ⟨_, rfl⟩
  have hw := alive_w
  have he := alive_e
  have ht := alive_t
  rw [← eT] at ll l0 hw he ht ⊢
  clear eT
  simp only [core1, hkr, execOp, opd, opds, putT, put, nth, doCall, callV_func, List.nil_append, List.append_nil]
  refine opv_callf f1 (f23 T _ _ ll f1) fun v2 h2 n2 hn2 f2 ⟨e2, o2⟩ => ?_
  subst e2
  simp only [workA, if_neg l0, hw]
  simp only [core1, tyr, execOp, opd, putT, put, nth, zeroOf, cel, alloc, doAlloc, newRow, extract, getO, List.getElem?_cons_succ, List.getElem?_cons_zero, W]
  refine opv_all4 (arr_0 (upd_same _ _ _)) ti25 rfl fun b1 k1 => ?_
  have k1 := pick_wd k1
  have s1 : ∀ j, j < n2 → (upd (upd h2 n2 (some (Blk.row (Cont.l [AVal.int IntKind.u64 0, AVal.int IntKind.u64 0, AVal.int IntKind.u64 0, AVal.int IntKind.u64 0]) 25))) n2 (some b1)) j = h2 j := fun j hj => by rw [upd_ne _ _ (by omega), upd_ne _ _ (by omega)]
  have f1 : Free (upd (upd h2 n2 (some (Blk.row (Cont.l [AVal.int IntKind.u64 0, AVal.int IntKind.u64 0, AVal.int IntKind.u64 0, AVal.int IntKind.u64 0]) 25))) n2 (some b1)) (n2 + 1) := f2.new.upd (by omega)
  generalize (upd (upd h2 n2 (some (Blk.row (Cont.l [AVal.int IntKind.u64 0, AVal.int IntKind.u64 0, AVal.int IntKind.u64 0, AVal.int IntKind.u64 0]) 25))) n2 (some b1)) = H1 at *
  have oh : Old h H1 n := fun j hj => by rw [s1 j (by omega), o2 j (by omega), o1 j (by omega)]
  simp only [core1, fgr, execOp, opd, putT, put, nth, forgetL]
  refine run_draw.2 ⟨rfl, ?_⟩
  simp only [fe_cons, hkr, execOp, opd, opds, ofValue, doCall, callV_func, List.nil_append, List.append_nil]
  refine fev_free f1 (f36 65535 208 _ _ (by decide) Free.none) (f36 65535 208 _ _ (by decide) f1) fun v3 h3 n3 hn3 f3 ⟨e3, o3⟩ => ?_
  subst e3
  rw [ht]
  simp only [fe_cons, hkr, execOp, opd, opds, ofValue, putT, put, nth, doCall, callV_func, List.nil_append, List.append_nil, Nat.zero_add]
  refine fev_free f3 (f35 486604799 T _ _ (by decide) he Free.none) (f35 486604799 T _ _ (by decide) he f3) fun v4 h4 n4 hn4 f4 ⟨e4, o4⟩ => ?_
  subst e4
  simp only [fe_cons, fe_guard, fego_some, feg_bool, feg_tt, fev_ask, fev_pure, execOp, opd, ofValue, putT, put, nth, bor, binInt, shiftB, intOp, doPick, branch, List.getElem?_cons_succ, List.getElem?_cons_zero, Nat.reduceAdd, decide_true, beq_self_eq_true]
  rw [fev_rd (((k1.keep (o3 _ (by omega))).keep (o4 _ (by omega))).all ti25 rfl rfl), range4]
  simp only [fe_guard, fego_some, feg_bool, feg_tt, hkr, execOp, opd, opds, ofValue, putT, put, nth, doCall, callV_func, List.getElem?_cons_succ, List.getElem?_cons_zero, List.nil_append, List.append_nil, Nat.reduceAdd]
  refine fev_free f4 (f19 4295032833 _ _ (by decide)) (f19 4295032833 _ _ (by decide)) fun v5 h5 n5 hn5 f5 ⟨e5, o5⟩ => ?_
  subst e5
  have ee := eq_agg (a := 4295032833) (b := 4295032833) (by decide) (by decide)
  simp only [fe_nil, fe_cons, fe_guard, fego_some, feg_bool, feg_tt, fev_ask, fev_pure, core1, fgr, execOp, opd, ofValue, putT, put, nth, forgetL, bor, binOther, doPick, branch, List.getElem?_cons_succ, List.getElem?_cons_zero, Nat.reduceAdd, decide_true, true_and, W, ee, decide_true]
  refine ⟨(by (try simp (disch := omega) only [fine, List.all_cons, List.all_nil, clash_pl, clash_pr, clash_rr, Bool.not_false, Bool.true_or, Bool.and_true, clash_nn, clash_xn, clash_nx]); repeat' (first | rfl | exact (Bool.or_eq_true _ _).mpr (.inr rfl) | refine (Bool.and_eq_true _ _).mpr ⟨?_, ?_⟩)), ?_⟩
  exact fun j hj => by rw [o5 j (by omega), o4 j (by omega), o3 j (by omega)]; exact oh j hj
/-- What a form stands for is near. -/
theorem near {t : Nat} (ht : t < b256) (t0 : t ≠ 0) : ∃ x, expV (compV t) = some x ∧ compV x = compV t ∧ x ≤ t ∧ t - x < 2 ^ (8 * (szC t - 3)) := by
  obtain ⟨c1, c2⟩ := compV_eq t
  have hb := isSz_bsz t
  have hbp := bsz_pos t0
  have hlow : 2 ^ (8 * (bsz t - 1)) ≤ t := hb.2.resolve_left (by omega)
  have hs : compV t / 16777216 = szC t := by rw [c1]; omega
  have hm : compV t % 8388608 = manS t (szC t) := by rw [c1]; omega
  have hX : expX (compV t) = if szC t < 3 then manS t (szC t) / 2 ^ (8 * (3 - szC t)) else manS t (szC t) * 2 ^ (8 * (szC t - 3)) := by
    unfold expX
    rw [hs, hm]
  obtain ⟨x, ex⟩ : ∃ x, x = expX (compV t) := ⟨_, rfl⟩
  have main : manS x (szC t) = manS t (szC t) ∧ x ≤ t ∧ t - x < 2 ^ (8 * (szC t - 3)) := by
    rw [ex, hX]
    by_cases q : szC t < 3
    · rw [if_pos q]
      have e : manS t (szC t) = t * 2 ^ (8 * (3 - szC t)) := by
        unfold manS
        rw [mul_pow_div, show 8 * szC t - 24 = 0 by omega, Nat.pow_zero, Nat.div_one, show 24 - 8 * szC t = 8 * (3 - szC t) by omega]
      have e2 : manS t (szC t) / 2 ^ (8 * (3 - szC t)) = t := by rw [e, Nat.mul_div_cancel _ (Nat.two_pow_pos _)]
      rw [e2]
      exact ⟨rfl, Nat.le_refl _, by rw [Nat.sub_self]; exact Nat.two_pow_pos _⟩
    · rw [if_neg q]
      have e : ∀ y, manS y (szC t) = y / 2 ^ (8 * (szC t - 3)) := fun y => by
        unfold manS
        rw [mul_pow_div, show 24 - 8 * szC t = 0 by omega, Nat.pow_zero, Nat.mul_one, show 8 * szC t - 24 = 8 * (szC t - 3) by omega]
      rw [e, e, Nat.mul_div_cancel _ (Nat.two_pow_pos _)]
      refine ⟨rfl, Nat.div_mul_le_self _ _, ?_⟩
      have := Nat.div_add_mod t (2 ^ (8 * (szC t - 3)))
      have h2 := Nat.mod_lt t (Nat.two_pow_pos (8 * (szC t - 3)))
      rw [Nat.mul_comm] at this
      omega
  obtain ⟨m1, m2, m3⟩ := main
  have big : ∀ {s j : Nat}, 2 ^ j ≤ manS x s → 2 ^ j * 2 ^ (8 * s) ≤ x * 2 ^ 24 := fun {s j} h => by
    unfold manS at h
    exact (Nat.le_div_iff_mul_le (Nat.two_pow_pos _)).1 h
  have hmt : 2 ^ 16 ≤ mantV t := by
    rw [mantV_eq]
    unfold manS
    rw [Nat.le_div_iff_mul_le (Nat.two_pow_pos _)]
    calc 2 ^ 16 * 2 ^ (8 * bsz t) = 2 ^ (8 * (bsz t - 1)) * 2 ^ 24 := by rw [← Nat.pow_add, ← Nat.pow_add]; congr 1; omega
      _ ≤ _ := Nat.mul_le_mul_right _ hlow
  have hsz : isSz x (bsz t) := by
    refine ⟨Nat.lt_of_le_of_lt m2 hb.1, .inr ?_⟩
    refine Nat.le_of_mul_le_mul_right ?_ (Nat.two_pow_pos 24)
    by_cases q : 8388608 ≤ mantV t
    · have es : szC t = bsz t + 1 := if_pos q
      rw [es, manS_succ (a := t), ← mantV_eq] at m1
      have := big (s := bsz t + 1) (j := 15) (by rw [m1]; omega)
      refine Nat.le_trans ?_ this
      rw [← Nat.pow_add, ← Nat.pow_add]
      exact Nat.pow_le_pow_right (by decide) (by omega)
    · have es : szC t = bsz t := if_neg q
      rw [es, ← mantV_eq (a := t)] at m1
      have := big (s := bsz t) (j := 16) (by rw [m1]; exact hmt)
      refine Nat.le_trans ?_ this
      rw [← Nat.pow_add, ← Nat.pow_add]
      exact Nat.pow_le_pow_right (by decide) (by omega)
  have hbx : bsz x = bsz t := hsz.eq.symm
  have hx0 : x ≠ 0 := by
    intro q
    have := hsz.2.resolve_left (by omega)
    have h2 := Nat.two_pow_pos (8 * (bsz t - 1))
    omega
  have hC : szC x = szC t := by
    by_cases q : 8388608 ≤ mantV t
    · have es : szC t = bsz t + 1 := if_pos q
      rw [es, manS_succ, manS_succ (a := t), ← mantV_eq (a := t), ← hbx, ← mantV_eq (a := x)] at m1
      unfold szC
      rw [if_pos q, if_pos (by omega), hbx]
    · have es : szC t = bsz t := if_neg q
      rw [es, ← mantV_eq (a := t), ← hbx, ← mantV_eq (a := x)] at m1
      unfold szC
      rw [if_neg q, if_neg (by omega), hbx]
  have hcx : compV x = compV t := by
    rw [(compV_eq x).1, hC, m1, ← c1]
  exact ⟨x, expV_x ex (Nat.lt_of_le_of_lt m2 ht) hx0 hcx, hcx, m2, m3⟩
/- Scaled targets: the statement. -/
def noSc (t by_ of most : Nat) : Prop := t = 0 ∨ most = 0 ∨ okB by_ = false ∨ okB of = false
instance (t by_ of most : Nat) : Decidable (noSc t by_ of most) := by unfold noSc; exact inferInstance
/- The closed statement of targets: errors, examples and bounds. -/
theorem work_of {t w : Nat} (h : t ≠ 0) (hw : workV t = w) : workA t = .tup [W w, .int .i64 0] := by
  unfold workA
  rw [if_neg h, hw]
theorem hb0 : build env 25 [] = M.pure (W 0) := rfl
theorem not_0 : b256 - 1 - 0 = 115792089237316195423570985008687907853269984665640564039457584007913129639935 := by decide +kernel
theorem sum_nil : sumV [] 0 = 0 := rfl
theorem eq_same {a : Nat} (ha : a < b256) : equalTop env 25 (.agg [.int .u64 (wd a 0 : Nat), .int .u64 (wd a 1 : Nat), .int .u64 (wd a 2 : Nat), .int .u64 (wd a 3 : Nat)]) (.agg [.int .u64 (wd a 0 : Nat), .int .u64 (wd a 1 : Nat), .int .u64 (wd a 2 : Nat), .int .u64 (wd a 3 : Nat)]) = M.pure true := by
  rw [eq_agg ha ha, decide_eq_true rfl]
theorem eq_same0 : equalTop env 25 (.agg [.int .u64 (wd 0 0 : Nat), .int .u64 (wd 0 1 : Nat), .int .u64 (wd 0 2 : Nat), .int .u64 (wd 0 3 : Nat)]) (.agg [.int .u64 0, .int .u64 0, .int .u64 0, .int .u64 0]) = M.pure true := by
  rw [eq_agg0 (a := 0) (by decide), decide_eq_true rfl]
theorem eq_00 : equalTop env 25 (.agg [.int .u64 0, .int .u64 0, .int .u64 0, .int .u64 0]) (.agg [.int .u64 0, .int .u64 0, .int .u64 0, .int .u64 0]) = M.pure true := eq_same0
theorem ws3 {h : Hp} {id e a b c : Nat} (hh : h id = some (.row (.l [.int .u64 (wd a 0 : Nat), .int .u64 (wd a 1 : Nat), .int .u64 (wd a 2 : Nat), .int .u64 (wd a 3 : Nat), .int .u64 (wd b 0 : Nat), .int .u64 (wd b 1 : Nat), .int .u64 (wd b 2 : Nat), .int .u64 (wd b 3 : Nat), .int .u64 (wd c 0 : Nat), .int .u64 (wd c 1 : Nat), .int .u64 (wd c 2 : Nat), .int .u64 (wd c 3 : Nat)]) e)) (la : a < b256) (lb : b < b256) (lc : c < b256) : WsR h (.sl id 0 3 (some 3) 4) [a, b, c] :=
  own_ws (ns := [a, b, c]) hh (fun j hj => by
    match j, hj with
    | 0, _ => exact la
    | 1, _ => exact lb
    | 2, _ => exact lc) (Nat.le_refl _) (fun j hj => by
    match j, hj with
    | 0, _ => rfl
    | 1, _ => rfl
    | 2, _ => rfl)
theorem ws2 {h : Hp} {id e a b : Nat} (hh : h id = some (.row (.l [.int .u64 (wd a 0 : Nat), .int .u64 (wd a 1 : Nat), .int .u64 (wd a 2 : Nat), .int .u64 (wd a 3 : Nat), .int .u64 (wd b 0 : Nat), .int .u64 (wd b 1 : Nat), .int .u64 (wd b 2 : Nat), .int .u64 (wd b 3 : Nat)]) e)) (la : a < b256) (lb : b < b256) : WsR h (.sl id 0 2 (some 2) 4) [a, b] :=
  own_ws (ns := [a, b]) hh (fun j hj => by
    match j, hj with
    | 0, _ => exact la
    | 1, _ => exact lb) (Nat.le_refl _) (fun j hj => by
    match j, hj with
    | 0, _ => rfl
    | 1, _ => rfl)
def gH (j : Nat) : Nat := if j = 1 then 1 else 0
theorem gH_lt : ∀ j, j < 32 → gH j < 256 := fun j _ => by unfold gH; split <;> decide
theorem gH_256 : decide (leN gH 32 ≤ 256) = true := by decide +kernel
theorem gH_255 : decide (leN gH 32 ≤ 255) = false := by decide +kernel
theorem g0_0 : decide (leN (fun _ => 0) 32 ≤ 0) = true := by decide +kernel
theorem hb47 : build env 47 [] = M.pure (.agg (cellsF .u8 32 (fun _ => ((0 : Nat) : Int)))) := rfl
theorem hashH {h : Hp} {id : Nat} (ha : Arr .u8 h id 32 (fun x => if x = 1 then 1 else 0)) : Arr .u8 h id 32 (fun j => (gH j : Nat)) := ha.ext fun j hj => by
  unfold gH
  split <;> rfl
theorem rhash {h : Hp} {n id : Nat} {g : Nat → Nat} (ha : Arr .u8 h id 32 (fun j => (g j : Nat))) : Rd (load env 47 (.ptr id 0)) h n [id] (.agg (cellsF .u8 32 (fun j => (g j : Nat)))) := ha.all ti47 rfl rfl
theorem f37 (c : Nat) (h : Hp) (n : Nat) (hc : c < 4294967296) (he : expV c = none) (hf : Free h n) : Wp (callI env (evalW env) 37 [.int .u32 (c : Nat)]) h n fun v' h' n' => v' = .bool true ∧ Old h h' n := by
  refine wp_callI ff37 fi37 ?_
  simp only [fu37, Try.f37, Option.getD_some, List.replicate, core1, fgr, hkr, execOp, opd, opds, ofValue, putT, put, nth, forgetL, doCall, callV_func, ended, resultOf, oneOrTup, List.cons_append, List.nil_append, List.append_nil, List.length_cons, List.length_nil, Nat.reduceSub, Nat.zero_add, wp_pure]
  refine opv_callf hf (f16 c _ _ hc hf) fun v1 h1 n1 hn1 f1 ⟨e1, o1⟩ => ?_
  subst e1
  simp only [expA, he]
  simp only [core1, tyr, execOp, opd, putT, put, nth, zeroOf, cel, alloc, doAlloc, newRow, extract, getO, List.getElem?_cons_succ, List.getElem?_cons_zero, W]
  refine opv_all4 (arr_0 (upd_same _ _ _)) ti25 rfl fun b3 k3 => ?_
  have k3 := pick_wd k3
  have s3 : ∀ j, j < n1 → (upd (upd h1 n1 (some (Blk.row (Cont.l [AVal.int IntKind.u64 0, AVal.int IntKind.u64 0, AVal.int IntKind.u64 0, AVal.int IntKind.u64 0]) 25))) n1 (some b3)) j = h1 j := fun j hj => by rw [upd_ne _ _ (by omega), upd_ne _ _ (by omega)]
  have f3 : Free (upd (upd h1 n1 (some (Blk.row (Cont.l [AVal.int IntKind.u64 0, AVal.int IntKind.u64 0, AVal.int IntKind.u64 0, AVal.int IntKind.u64 0]) 25))) n1 (some b3)) (n1 + 1) := f1.new.upd (by omega)
  generalize (upd (upd h1 n1 (some (Blk.row (Cont.l [AVal.int IntKind.u64 0, AVal.int IntKind.u64 0, AVal.int IntKind.u64 0, AVal.int IntKind.u64 0]) 25))) n1 (some b3)) = H3 at *
  simp only [core1, fgr, execOp, opd, ofValue, putT, put, nth, forgetL, bor, binInt, shiftB, intOp, List.getElem?_cons_succ, List.getElem?_cons_zero, decide_true, beq_self_eq_true]
  rw [opv_rd (k3.all ti25 rfl rfl), range4]
  simp only [core1, fgr, execOp, opd, ofValue, ops2, putT, put, nth, forgetL, bor, binOther, doPick, branch, List.getElem?_cons_succ, List.getElem?_cons_zero, true_and, hb0, W0, eq_same0]
  exact fun j hj => by rw [s3 j (by omega), o1 j (by omega)]
theorem tm_1_255 : leftV 1 255 = 57896044618658097711785492504343953926634992332820282019728792003956564819968 := by decide +kernel
theorem tm_128_248 : leftV 128 248 = 57896044618658097711785492504343953926634992332820282019728792003956564819968 := by decide +kernel
theorem tm_65535_240 : leftV 65535 240 = 115790322390251417039241401711187164934754157181743688420499462401711837020160 := by decide +kernel
theorem tm_8388607_232 : leftV 8388607 232 = 57896037716911750921221705069588091649609539881711309849342236841432341020672 := by decide +kernel
theorem is_68301910 : expV 68301910 = some 305419776 := by decide +kernel
theorem is_545259519 : expV 545259519 = some 57896037716911750921221705069588091649609539881711309849342236841432341020672 := by decide +kernel
theorem is_16842752 : expV 16842752 = some 1 := by decide +kernel
theorem is_33587200 : expV 33587200 = some 128 := by decide +kernel
theorem is_553680896 : expV 553680896 = some 57896044618658097711785492504343953926634992332820282019728792003956564819968 := by decide +kernel
theorem is_51524694 : expV 51524694 = some 1193046 := by decide +kernel
theorem is_34747392 : expV 34747392 = some 4660 := by decide +kernel
theorem is_553713663 : expV 553713663 = some 115790322390251417039241401711187164934754157181743688420499462401711837020160 := by decide +kernel
theorem bad_76690518 : expV 76690518 = none := by decide +kernel
theorem bad_16790614 : expV 16790614 = none := by decide +kernel
theorem bad_17970262 : expV 17970262 = none := by decide +kernel
theorem bad_0 : expV 0 = none := by decide +kernel
theorem bad_570425345 : expV 570425345 = none := by decide +kernel
theorem bad_553713664 : expV 553713664 = none := by decide +kernel
theorem bad_67108882 : expV 67108882 = none := by decide +kernel
theorem bad_4279383126 : expV 4279383126 = none := by decide +kernel
theorem bad_1193046 : expV 1193046 = none := by decide +kernel
theorem bad_545259520 : expV 545259520 = none := by decide +kernel
theorem wk_57896037716911750921221705069588091649609539881711309849342236841432341020672 : workA 57896037716911750921221705069588091649609539881711309849342236841432341020672 = .tup [W 2, .int .i64 0] := work_of (by decide +kernel) (by decide +kernel)
theorem wk_115792089237316195423570985008687907853269984665640564039457584007913129639935 : workA 115792089237316195423570985008687907853269984665640564039457584007913129639935 = .tup [W 1, .int .i64 0] := work_of (by decide +kernel) (by decide +kernel)
theorem wk_0 : workA 0 = .tup [W 0, .int .i64 50] := rfl
theorem wk_1 : workA 1 = .tup [W 57896044618658097711785492504343953926634992332820282019728792003956564819968, .int .i64 0] := work_of (by decide +kernel) (by decide +kernel)
theorem cp_0 : compA 0 = .tup [.int .u32 0, .int .i64 50] := rfl
theorem sm_2_3_4 : sumV [2, 3, 4] 0 = 9 := by decide +kernel
theorem sm_968_968 : sumV [57896044618658097711785492504343953926634992332820282019728792003956564819968, 57896044618658097711785492504343953926634992332820282019728792003956564819968] 0 = 115792089237316195423570985008687907853269984665640564039457584007913129639935 := by decide +kernel
theorem sm_935_0 : sumV [115792089237316195423570985008687907853269984665640564039457584007913129639935, 0] 0 = 115792089237316195423570985008687907853269984665640564039457584007913129639935 := by decide +kernel
theorem sq_100_3_7_0 : scaleQ 100 3 7 1000 = 42 := by decide +kernel
theorem se_100_3_7_0 : scaleE 100 3 7 1000 = 0 := by decide +kernel
theorem sq_100_3_7_42 : scaleQ 100 3 7 42 = 42 := by decide +kernel
theorem se_100_3_7_42 : scaleE 100 3 7 42 = 0 := by decide +kernel
theorem sq_1_1_2_9 : scaleQ 1 1 2 9 = 1 := by decide +kernel
theorem se_1_1_2_9 : scaleE 1 1 2 9 = 0 := by decide +kernel
theorem sq_968_4_1_935 : scaleQ 57896044618658097711785492504343953926634992332820282019728792003956564819968 4 1 115792089237316195423570985008687907853269984665640564039457584007913129639935 = 115792089237316195423570985008687907853269984665640564039457584007913129639935 := by decide +kernel
theorem se_968_4_1_935 : scaleE 57896044618658097711785492504343953926634992332820282019728792003956564819968 4 1 115792089237316195423570985008687907853269984665640564039457584007913129639935 = 0 := by decide +kernel
theorem sq_0_1_1_1 : scaleQ 0 1 1 1 = 0 := by decide +kernel
theorem se_0_1_1_1 : scaleE 0 1 1 1 = 50 := by decide +kernel
theorem sq_1_0_1_1 : scaleQ 1 0 1 1 = 0 := by decide +kernel
theorem se_1_0_1_1 : scaleE 1 0 1 1 = 50 := by decide +kernel
theorem sq_1_1_777_1 : scaleQ 1 1 1099511627777 1 = 0 := by decide +kernel
theorem se_1_1_777_1 : scaleE 1 1 1099511627777 1 = 50 := by decide +kernel
theorem sq_1_1_1_0 : scaleQ 1 1 1 0 = 0 := by decide +kernel
theorem se_1_1_1_0 : scaleE 1 1 1 0 = 50 := by decide +kernel
end Go.Am.Ytmlagocbphoedaa
