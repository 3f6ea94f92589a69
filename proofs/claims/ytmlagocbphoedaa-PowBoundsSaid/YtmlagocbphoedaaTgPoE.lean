/- The functions that the statement reaches, gone through. -/
import Derived.Test.YtmlagocbphoedaaTgPoD
set_option linter.unusedSimpArgs false
set_option linter.unusedVariables false
set_option linter.defProp false
set_option maxRecDepth 10000
namespace Go.Am.Ytmlagocbphoedaa
open Go Go.Am Go.Proofs
set_option maxHeartbeats 4000000 in
theorem f15 (a : Nat) (h : Hp) (n : Nat) (ha : a < b256) (hf : Free h n) : Wp (callI env (evalW env) 15 [W a]) h n fun v' h' n' => v' = compA a ∧ Old h h' n := by
  refine wp_callI ff15 fi15 ?_
  have kb : Arr .u64 (upd h n (some (Blk.row (Cont.l [AVal.int IntKind.u64 (wd a 0 : Nat), AVal.int IntKind.u64 (wd a 1 : Nat), AVal.int IntKind.u64 (wd a 2 : Nat), AVal.int IntKind.u64 (wd a 3 : Nat)]) 25))) n 4 (fun j => (wd a j : Nat)) := arr_W (upd_same _ _ _)
  simp only [fu15, Try.f15, Option.getD_some, List.replicate, core1, tyr, fgr, execOp, opd, ofValue, putT, put, nth, forgetL, cel, alloc, newRow, ended, resultOf, oneOrTup, List.cons_append, List.nil_append, List.length_cons, List.length_nil, Nat.reduceSub, Nat.zero_add, wp_pure, W]
  rw [opv_rd (kb.all ti25 rfl rfl), range4]
  simp only [core1, hkr, execOp, opd, opds, putT, put, nth, doCall, callV_func, List.nil_append, List.append_nil]
  refine opv_callf hf.new (f39 a _ _ ha) fun v1 h1 n1 hn1 f1 ⟨e1, o1⟩ => ?_
  subst e1
  by_cases h0 : a = 0
  · simp only [core1, fgr, execOp, opd, ofValue, putT, put, nth, forgetL, ↓reduceIte, decide_true, true_and, h0, compA]
    exact fun j hj => by rw [o1 j (by omega), upd_ne _ _ (by omega)]
  have k1 := kb.keep (o1 _ (by omega))
  have o1 : Old h h1 n := fun j hj => by rw [o1 j (by omega), upd_ne _ _ (by omega)]
  simp only [core1, tyr, fgr, execOp, opd, ofValue, putT, put, nth, forgetL, zeroOf, cel, alloc, doAlloc, newRow, decide_false, h0]
  refine opv_arr (arr_1 (by rw [upd_ne _ _ (by omega), upd_ne _ _ (by omega)]; exact upd_same _ _ _)) ti3 rfl (j := 0) (by decide) fun b4 k4 => ?_
  simp only [core1, execOp, opd, ofValue, putT, nth]
  refine opv_arr (arr_1 (by rw [upd_ne _ _ (by omega), upd_ne _ _ (by omega)]; exact upd_same _ _ _)) ti35 rfl (j := 0) (by decide) fun b5 k5 => ?_
  simp only [core1, execOp, opd, ofValue, putT, nth]
  refine opv_arr (arr_1 (by rw [upd_ne _ _ (by omega), upd_ne _ _ (by omega)]; exact upd_same _ _ _)) ti3 rfl (j := 0) (by decide) fun b6 k6 => ?_
  have k4 := ((arr_one k4).upd (i := n1 + 1) (b := some b5) (by omega)).upd (i := n1 + 1 + 1) (b := some b6) (by omega)
  have k5 := (arr_one k5).upd (i := n1 + 1 + 1) (b := some b6) (by omega)
  have k6 := arr_one k6
  generalize hG : upd (upd (upd (upd (upd (upd h1 n1 _) _ _) _ _) _ _) _ _) _ _ = G at *
  have gk : ∀ j, j < n1 → G j = h1 j := fun j hj => by rw [← hG]; simp (disch := omega) only [upd_ne]
  have fG : Free G (n1 + 1 + 1 + 1) := by rw [← hG]; exact (((f1.new.new.new).upd (by omega)).upd (by omega)).upd (by omega)
  clear hG
  have g1 := k1.keep (gk _ (by omega))
  have oG : Old h G n := fun j hj => by rw [gk j (by omega)]; exact o1 j hj
  simp only [core1, fgr, execOp, opd, putT, nth, forgetL]
  rw [opv_rd (g1.all ti25 rfl rfl), range4]
  simp only [core1, hkr, execOp, opd, opds, putT, put, nth, doCall, callV_func, List.nil_append, List.append_nil]
  refine (opv_det (f50 a G _) _ _ _ _ _ _ _ _ _).2 ?_
  simp only [core1, fgr, putT, put, forgetL]
  refine run_range (g := 66) (first := []) (cap := [.ptr (n1 + 1 + 1 + 1) 0]) rfl rfl ?_
  refine wp_callI ff66 fi66 ?_
  simp only [fu66, Try.f66, Option.getD_some, List.replicate, core1, execOp, opd, nth, ended, resultOf, oneOrTup, List.cons_append, List.nil_append, List.length_cons, List.length_nil, Nat.reduceAdd, Nat.reduceSub, Nat.zero_add, wp_pure]
  generalize hF : upd (upd G (n1 + 1 + 1 + 1) _) (n1 + 1 + 1 + 1 + 1) (some (Blk.loop _)) = F
  have fid := (congrFun hF.symm (n1 + 1 + 1 + 1 + 1)).trans (upd_same _ _ _)
  have fa : Arr .u64 F (n1 + 1 + 1 + 1) 4 (fun j => (wd a j : Nat)) := arr_W (by rw [← hF, upd_ne _ _ (by omega)]; exact upd_same _ _ _)
  have fk : ∀ j, j < n1 + 1 + 1 + 1 → F j = G j := fun j hj => by rw [← hF, upd_ne _ _ (by omega), upd_ne _ _ (by omega)]
  have k4 := k4.keep (fk _ (by omega))
  have k5 := k5.keep (fk _ (by omega))
  have k6 := k6.keep (fk _ (by omega))
  have fF : Free F (n1 + 1 + 1 + 1 + 1 + 1) := by rw [← hF]; exact fG.new.new
  have oF : Old h F n := fun j hj => by rw [fk j (by omega)]; exact oG j hj
  clear hF
  rw [opv_rd (fa.all ti25 rfl rfl), range4]
  simp only [core1, hkr, execOp, opd, opds, putT, put, nth, doCall, callV_func, List.nil_append, List.append_nil]
  refine opv_callf fF (f67 a F _) fun v2 h2 n2 hn2 f2 ⟨id2, y2⟩ => ?_
  have e2 := y2.eq
  subst e2
  simp only [core1, fgr, execOp, opd, opds, ofValue, putT, put, nth, forgetL, doCall, builtin, one1, blr, bor, binInt, shiftB, intOp, wrapI, Int.cast_ofNat_Int, Int.reduceSub, decide_true]
  have hs := isSz_bsz a
  have hs32 := bsz_le ha
  have hs0 := bsz_pos h0
  have yo := y2.old
  have yg := y2.ge
  have yl := y2.lt
  have hml := mantV_lt a
  refine loop66 _ _ n a (bsz a) (n1 + 1 + 1 + 1) id2 n1 (n1 + 1) (n1 + 1 + 1) (n1 + 1 + 1 + 1 + 1) _ ha hs hs0 hs32 (by omega) (by omega) h n2 (by omega) ?hA ?hB 32 h2 _ _ _ _ _ _ _ _ _ _ _ _ _ _ _ _ _ (by omega) (by omega) ((y2.old _ (by omega)).trans fid) y2.nums ((k4.keep (y2.old _ (by omega))).ext fun j hj => by rw [if_pos hs32]; rfl) ((k5.keep (y2.old _ (by omega))).ext fun j hj => by rw [(hs.zero (m := 32)).2 hs32]; rfl) ((k6.keep (y2.old _ (by omega))).ext fun j hj => by rw [show bsz a - 32 = 0 by omega]; rfl) (oF.trans y2.old (by omega)) f2
  case' hA =>
    intro h3 tm' x0 x1 x2 x3 x7 x8 x10 x12 x13 x14 x20 x23 x32 x34 x40 hlt hid l4 l5 l6 o3 f3
    simp only [core1, true_and]
    refine ⟨_, hid, by simp [L15], .normal, rfl, ?_⟩
    simp only [core1]
    have hM : bsz a < 2 ^ 60 := by omega
    have hF : mantV a = a * 2 ^ (8 * (3 - bsz a)) := by
      unfold mantV
      rw [show bsz a - 3 = 0 by omega, Nat.mul_zero, Nat.pow_zero, Nat.div_one]
    refine loop15 _ _ none _ (n1 + 1) (n1 + 1 + 1) n2 (by omega) _ (mantV a) ?_ (3 - bsz a) (bsz a) a _ _ _ _ _ _ _ _ _ _ _ _ _ _ _ _ (by omega) hs.1 hF (l5.upd (by omega)) (l6.upd (by omega)) (fun _ _ _ => rfl)
    intro h4 x0 x1 x2 x3 x7 x8 x10 x12 x13 x14 x20 x23 x32 x34 x40 l5 hk
    have l4 := (l4.upd (i := n1 + 1 + 1 + 1 + 1) (by omega)).keep (hk _ (by omega) (by omega))
    have o4 : Old h h4 n := fun j hj => by rw [hk j (by omega) (by omega), upd_ne _ _ (by omega)]; exact o3 j hj
    clear hk
  case' hB =>
    intro h3 tm' hlt ⟨l, hid, ld, lp⟩ l4 l5 l6 o3 f3
    simp only [core1, true_and]
    refine ⟨_, hid, by simp [ld], .exit 0, by rw [lp], ?_⟩
    simp only [core1]
    have hM : bsz a < 2 ^ 60 := by omega
    have hF : mantV a = a / 2 ^ (8 * (bsz a - 3)) * 2 ^ (8 * 0) := by
      unfold mantV
      rw [show 3 - bsz a = 0 by omega]
    have hl := hs.lt (m := bsz a - 3)
    rw [show bsz a - (bsz a - 3) = 3 by omega] at hl
    refine loop15 _ _ none _ (n1 + 1) (n1 + 1 + 1) n2 (by omega) _ (mantV a) ?_ 0 3 _ _ _ _ _ _ _ _ _ _ _ _ _ _ _ _ _ (by omega) hl hF (l5.upd (by omega)) (l6.upd (by omega)) (fun _ _ _ => rfl)
    intro h4 x0 x1 x2 x3 x7 x8 x10 x12 x13 x14 x20 x23 x32 x34 x40 l5 hk
    have l4 := (l4.upd (i := n1 + 1 + 1 + 1 + 1) (by omega)).keep (hk _ (by omega) (by omega))
    have o4 : Old h h4 n := fun j hj => by rw [hk j (by omega) (by omega), upd_ne _ _ (by omega)]; exact o3 j hj
    clear hk
  all_goals
    simp only [core1, execOp, opd, nth]
    rw [opv_rd (l5.load ti35 rfl (j := 0) (by decide))]
    by_cases c : 8388608 ≤ mantV a
    · have ci : (8388608 : Int) ≤ ((mantV a : Nat) : Int) := by omega
      have sr : Int.fdiv ((mantV a : Nat) : Int) (2 ^ (min (Int.toNat 8) IntKind.u32.bits)) = ((mantV a / 256 : Nat) : Int) := shr32 (mantV a) 8 (by decide)
      have wp : IntKind.i64.wrap (((bsz a : Nat) : Int) + 1) = ((bsz a + 1 : Nat) : Int) := by rw [w64 (by omega) (by omega)]; omega
      have cv : IntKind.u32.wrap ((bsz a + 1 : Nat) : Int) = ((bsz a + 1 : Nat) : Int) := by rw [wrap32, Nat.mod_eq_of_lt (by omega)]
      have sh : IntKind.u32.wrap (((bsz a + 1 : Nat) : Int) * 2 ^ (min (Int.toNat 24) IntKind.u32.bits)) = (((bsz a + 1) * 16777216 : Nat) : Int) := by
        have := shl32 (bsz a + 1) 24 (by decide)
        rw [Nat.mod_eq_of_lt (by omega)] at this
        exact this
      have orr : IntKind.u32.wrap ((BitVec.ofInt IntKind.u32.bits (((bsz a + 1) * 16777216 : Nat) : Int) ||| BitVec.ofInt IntKind.u32.bits ((mantV a / 256 : Nat) : Int)).toNat : Int) = ((compV a : Nat) : Int) := by
        rw [or32 (by omega) (by omega), or_low _ _ 24 (Nat.mul_mod_left _ _) (by omega)]
        unfold compV
        rw [if_pos c]
      simp only [core1, fgr, execOp, opd, ofValue, putT, put, nth, forgetL, bor, binInt, shiftB, intOp, ge_iff_le, decide_true, ci]
      refine run_draw.2 ⟨rfl, ?_⟩
      simp only [fe_cons, execOp, opd, nth]
      rw [fev_rd (l5.load ti35 rfl (j := 0) (by decide))]
      simp only [fe_cons, fev_ob, fev_pure, execOp, opd, ofValue, putT, put, nth, bor, binInt, shiftB, shiftOp, Nat.reduceAdd, Int.reduceLE, decide_true, true_and, Nat.zero_add, sr]
      rw [fev_rd (l4.load ti3 rfl (j := 0) (by decide))]
      simp only [fe_cons, fev_pure, execOp, opd, ofValue, putT, put, nth, bor, binInt, shiftB, intOp, wrapI, Nat.reduceAdd, decide_true, wp]
      refine fev_st l5 ti35 rfl (j := 0) (by decide) fun b5 m5 => ?_
      simp only [fe_cons, execOp, opd, putT, nth, Nat.reduceAdd]
      refine fev_st (l4.upd (by omega)) ti3 rfl (j := 0) (by decide) fun b4 m4 => ?_
      simp only [fe_nil, core1, fgr, execOp, opd, putT, nth, forgetL, Nat.reduceAdd]
      refine ⟨(by (try simp (disch := omega) only [fine, List.all_cons, List.all_nil, clash_pl, clash_pr, clash_rr, Bool.not_false, Bool.true_or, Bool.and_true, Bool.true_and, clash_rw, clash_ww]); repeat' (first | rfl | exact (Bool.or_eq_true _ _).mpr (.inr rfl) | refine (Bool.and_eq_true _ _).mpr ⟨?_, ?_⟩)), ?_⟩
      have m5 := (arr_one m5).upd (i := n1) (b := some b4) (by omega)
      have m4 := arr_one m4
      rw [opv_rd (m4.load ti3 rfl (j := 0) (by decide))]
      simp only [core1, tyr, execOp, opd, ofValue, putT, put, nth, und, lenOf, bor, binInt, shiftB, shiftOp, wrapI, strK, intK, Int.reduceLE, decide_true, true_and, convert, convStr, isU8, cv, sh]
      rw [opv_rd (m5.load ti35 rfl (j := 0) (by decide))]
      simp only [core1, fgr, execOp, opd, ofValue, putT, put, nth, forgetL, bor, binInt, shiftB, intOp, wrapI, decide_true, true_and, orr, compA, if_neg h0]
      exact fun j hj => by rw [upd_ne _ _ (by omega), upd_ne _ _ (by omega)]; exact o4 j hj
    · have ci : ¬ (8388608 : Int) ≤ ((mantV a : Nat) : Int) := by omega
      have cv : IntKind.u32.wrap ((bsz a : Nat) : Int) = ((bsz a : Nat) : Int) := by rw [wrap32, Nat.mod_eq_of_lt (by omega)]
      have sh : IntKind.u32.wrap (((bsz a : Nat) : Int) * 2 ^ (min (Int.toNat 24) IntKind.u32.bits)) = (((bsz a) * 16777216 : Nat) : Int) := by
        have := shl32 (bsz a) 24 (by decide)
        rw [Nat.mod_eq_of_lt (by omega)] at this
        exact this
      have orr : IntKind.u32.wrap ((BitVec.ofInt IntKind.u32.bits (((bsz a) * 16777216 : Nat) : Int) ||| BitVec.ofInt IntKind.u32.bits ((mantV a : Nat) : Int)).toNat : Int) = ((compV a : Nat) : Int) := by
        rw [or32 (by omega) (by omega), or_low _ _ 24 (Nat.mul_mod_left _ _) (by omega)]
        unfold compV
        rw [if_neg c]
      simp only [core1, fgr, execOp, opd, ofValue, putT, put, nth, forgetL, bor, binInt, shiftB, intOp, ge_iff_le, decide_true, decide_false, ci]
      rw [opv_rd (l4.load ti3 rfl (j := 0) (by decide))]
      simp only [core1, tyr, execOp, opd, ofValue, putT, put, nth, und, lenOf, bor, binInt, shiftB, shiftOp, wrapI, strK, intK, Int.reduceLE, decide_true, true_and, convert, convStr, isU8, cv, sh]
      rw [opv_rd (l5.load ti35 rfl (j := 0) (by decide))]
      simp only [core1, fgr, execOp, opd, ofValue, putT, put, nth, forgetL, bor, binInt, shiftB, intOp, wrapI, decide_true, true_and, orr, compA, if_neg h0]
      exact o4
/-- Three bytes of a number that has s. -/
def manS (a s : Nat) : Nat := a * 2 ^ 24 / 2 ^ (8 * s)
theorem mul_pow_div (a i j : Nat) : a * 2 ^ i / 2 ^ j = a * 2 ^ (i - j) / 2 ^ (j - i) := by
  by_cases h : i ≤ j
  · rw [show i - j = 0 by omega, Nat.pow_zero, Nat.mul_one]
    conv => lhs; rw [show 2 ^ j = 2 ^ i * 2 ^ (j - i) by rw [← Nat.pow_add]; congr 1; omega, Nat.mul_comm a]
    rw [Nat.mul_div_mul_left _ _ (Nat.two_pow_pos _)]
  · rw [show j - i = 0 by omega, Nat.pow_zero, Nat.div_one]
    rw [show 2 ^ i = 2 ^ (i - j) * 2 ^ j by rw [← Nat.pow_add]; congr 1; omega, ← Nat.mul_assoc, Nat.mul_div_cancel _ (Nat.two_pow_pos _)]
theorem mantV_eq (a : Nat) : mantV a = manS a (bsz a) := by
  unfold mantV manS
  rw [mul_pow_div]
  by_cases h : bsz a ≤ 3
  · rw [show bsz a - 3 = 0 by omega, show 8 * bsz a - 24 = 0 by omega, show 24 - 8 * bsz a = 8 * (3 - bsz a) by omega]
    simp
  · rw [show 3 - bsz a = 0 by omega, show 24 - 8 * bsz a = 0 by omega, show 8 * bsz a - 24 = 8 * (bsz a - 3) by omega]
    simp
theorem manS_succ (a s : Nat) : manS a (s + 1) = manS a s / 256 := by
  unfold manS
  rw [show 8 * (s + 1) = 8 * s + 8 by omega, Nat.pow_add, ← Nat.div_div_eq_div_mul]
/-- The size that is written. -/
def szC (a : Nat) : Nat := if 8388608 ≤ mantV a then bsz a + 1 else bsz a
theorem compV_eq (a : Nat) : compV a = szC a * 16777216 + manS a (szC a) ∧ manS a (szC a) < 8388608 := by
  have h := mantV_lt a
  unfold compV szC
  by_cases c : 8388608 ≤ mantV a
  · rw [if_pos c, if_pos c, manS_succ, ← mantV_eq]
    exact ⟨rfl, by omega⟩
  · rw [if_neg c, if_neg c, ← mantV_eq]
    exact ⟨rfl, by omega⟩
theorem szC_le {a : Nat} (ha : a < b256) : szC a ≤ 33 := by
  have := bsz_le ha
  unfold szC
  split <;> omega
/-- What a compact form stands for. -/
def expX (n : Nat) : Nat := if n / 16777216 < 3 then n % 8388608 / 2 ^ (8 * (3 - n / 16777216)) else n % 8388608 * 2 ^ (8 * (n / 16777216 - 3))
def expV (n : Nat) : Option Nat := if expX n < b256 ∧ expX n ≠ 0 ∧ compV (expX n) = n then some (expX n) else none
def expA (n : Nat) : AVal := match expV n with
  | none => .tup [W 0, .int .i64 50]
  | some x => .tup [W x, .int .i64 0]
/-- The truncated one is not taken for it. -/
theorem exp_trunc {n x : Nat} (hx : x < b256) (hc : compV x = n) (h3 : 3 ≤ n / 16777216) (he : x = expX n % b256) : expX n < b256 := by
  obtain ⟨c1, c2⟩ := compV_eq x
  have hs : n / 16777216 = szC x := by rw [← hc, c1]; omega
  have hm : n % 8388608 = manS x (szC x) := by rw [← hc, c1]; omega
  have hle := szC_le hx
  have hX : expX n = n % 8388608 * 2 ^ (8 * (n / 16777216 - 3)) := by unfold expX; rw [if_neg (by omega)]
  rw [hX]
  have h1 : manS x (szC x) = x / 2 ^ (8 * (szC x - 3)) := by
    unfold manS
    rw [mul_pow_div, show 24 - 8 * szC x = 0 by omega, Nat.pow_zero, Nat.mul_one]
    congr 2; omega
  rw [hs] at hX h3 ⊢
  rw [hX, p256] at he
  have h2 : x / 2 ^ (8 * (szC x - 3)) = n % 8388608 % 2 ^ (256 - 8 * (szC x - 3)) := by
    generalize szC x = s at *
    rw [he, show (2 : Nat) ^ 256 = 2 ^ (8 * (s - 3)) * 2 ^ (256 - 8 * (s - 3)) by rw [← Nat.pow_add]; congr 1; omega]
    rw [Nat.mod_mul_right_div_self, Nat.mul_div_cancel _ (Nat.two_pow_pos _)]
  rw [h2] at h1
  rw [h1] at hm
  have h4 : n % 8388608 < 2 ^ (256 - 8 * (szC x - 3)) := by
    rw [hm]; exact Nat.mod_lt _ (Nat.two_pow_pos _)
  rw [p256, show (256 : Nat) = 256 - 8 * (szC x - 3) + 8 * (szC x - 3) by omega, Nat.pow_add]
  exact (Nat.mul_lt_mul_right (Nat.two_pow_pos _)).2 h4
theorem expV_hi {n : Nat} (h : 33 < n / 16777216) : expV n = none := by
  unfold expV
  rw [if_neg]
  rintro ⟨h1, h2, h3⟩
  have := szC_le h1
  have := (compV_eq (expX n)).1
  have := (compV_eq (expX n)).2
  rw [h3] at *
  omega
theorem expV_x {n x : Nat} (hx : x = expX n) (h1 : x < b256) (h2 : x ≠ 0) (h3 : compV x = n) : expV n = some x := by
  subst hx
  exact if_pos ⟨h1, h2, h3⟩
theorem expV_no {n : Nat} (h : expX n < b256 → expX n ≠ 0 → compV (expX n) ≠ n) : expV n = none := if_neg fun q => h q.1 q.2.1 q.2.2
/- What a compact form stands for: the program's. -/
theorem mask23 {x : Nat} (hx : x < 4294967296) : IntKind.u32.wrap ((BitVec.ofInt IntKind.u32.bits (x : Int) &&& BitVec.ofInt IntKind.u32.bits 8388607).toNat : Int) = ((x % 8388608 : Nat) : Int) := by
  rw [BitVec.toNat_and, bv32 hx, show (BitVec.ofInt IntKind.u32.bits 8388607).toNat = 2 ^ 23 - 1 from rfl, Nat.and_two_pow_sub_one_eq_mod, wrap32, Nat.mod_eq_of_lt]
  have : x % 2 ^ 23 < 8388608 := Nat.mod_lt _ (by decide)
  omega
set_option maxHeartbeats 4000000 in
theorem f16 (c : Nat) (h : Hp) (n : Nat) (hc : c < 4294967296) (hf : Free h n) : Wp (callI env (evalW env) 16 [.int .u32 (c : Nat)]) h n fun v' h' n' => v' = expA c ∧ Old h h' n := by
  refine wp_callI ff16 fi16 ?_
  have hS : c / 16777216 < 256 := by omega
  have hm : c % 8388608 < 8388608 := Nat.mod_lt _ (by decide)
  obtain ⟨s, es⟩ : ∃ s, s = c / 16777216 := ⟨_, rfl⟩
  obtain ⟨m, em⟩ : ∃ m, m = c % 8388608 := ⟨_, rfl⟩
  have sr : Int.fdiv ((c : Nat) : Int) (2 ^ (min (Int.toNat 24) IntKind.u32.bits)) = ((s : Nat) : Int) := by rw [es]; exact shr32 c 24 (by decide)
  have cv1 : IntKind.i64.wrap ((s : Nat) : Int) = ((s : Nat) : Int) := w64 (by omega) (by omega)
  have cv2 : IntKind.u64.wrap ((m : Nat) : Int) = ((m : Nat) : Int) := wu64 (by omega) (by omega)
  have mk := mask23 hc
  rw [← em] at mk
  simp only [fu16, Try.f16, Option.getD_some, List.replicate, core1, tyr, fgr, hkr, execOp, opd, opds, ofValue, putT, put, nth, forgetL, doCall, callV_func, und, zeroOf, lenOf, bor, binInt, shiftB, shiftOp, intOp, wrapI, strK, intK, cel, alloc, doAlloc, newRow, ended, resultOf, oneOrTup, List.cons_append, List.nil_append, List.append_nil, List.length_cons, List.length_nil, Nat.reduceSub, Int.reduceLE, decide_true, true_and, Nat.zero_add, convert, convStr, isU8, sr, cv1, cv2, mk]
  have q1 : IntKind.i64.wrap (8 * IntKind.i64.wrap (((s : Nat) : Int) - 3)) = 8 * (((s : Nat) : Int) - 3) := by rw [w64 (n := ((s : Nat) : Int) - 3) (by omega) (by omega), w64 (by omega) (by omega)]
  have hmb : m < b256 := by unfold b256; omega
  refine opv_callf hf.new (f19 m _ _ (by omega)) fun v1 h1 n1 hn1 f1 ⟨e1, o1⟩ => ?_
  subst e1
  have k2 : Arr .u64 h1 n 4 (fun _ => 0) := (arr_0 (upd_same _ _ _)).keep (o1 _ (by omega))
  have o1 : Old h h1 n := fun j hj => by rw [o1 j (by omega), upd_ne _ _ (by omega)]
  simp only [core1, tyr, execOp, opd, putT, put, nth, zeroOf, cel, alloc, doAlloc, newRow, W]
  refine opv_all4 (arr_0 (upd_same _ _ _)) ti25 rfl fun b5 k5 => ?_
  have k5 := pick_wd k5
  have s5 : ∀ j, j < n1 → (upd (upd h1 n1 (some (Blk.row (Cont.l [AVal.int IntKind.u64 0, AVal.int IntKind.u64 0, AVal.int IntKind.u64 0, AVal.int IntKind.u64 0]) 25))) n1 (some b5)) j = h1 j := fun j hj => by rw [upd_ne _ _ (by omega), upd_ne _ _ (by omega)]
  have f5 : Free (upd (upd h1 n1 (some (Blk.row (Cont.l [AVal.int IntKind.u64 0, AVal.int IntKind.u64 0, AVal.int IntKind.u64 0, AVal.int IntKind.u64 0]) 25))) n1 (some b5)) (n1 + 1) := f1.new.upd (by omega)
  generalize upd (upd h1 n1 (some (Blk.row (Cont.l [AVal.int IntKind.u64 0, AVal.int IntKind.u64 0, AVal.int IntKind.u64 0, AVal.int IntKind.u64 0]) 25))) n1 (some b5) = H5 at *
  have k2 := k2.keep (s5 _ (by omega))
  have o5 : Old h H5 n := fun j hj => by rw [s5 j (by omega)]; exact o1 j hj
  simp only [core1, fgr, execOp, opd, putT, nth, forgetL]
  rw [opv_rd (k5.all ti25 rfl rfl), range4]
  simp only [core1, hkr, execOp, opd, opds, ofValue, putT, put, nth, doCall, callV_func, bor, binInt, shiftB, intOp, wrapI, List.nil_append, List.append_nil, decide_true, q1]
  refine opv_callf f5 (f20 m (8 * (((s : Nat) : Int) - 3)) _ _ hmb f5) fun v6 h6 n6 hn6 f6 ⟨e6, o6⟩ => ?_
  subst e6
  have k5 := k5.keep (o6 _ (by omega))
  have k2 := k2.keep (o6 _ (by omega))
  simp only [core1, tyr, execOp, opd, putT, put, nth, zeroOf, cel, alloc, doAlloc, newRow, W]
  refine opv_all4 (arr_0 (upd_same _ _ _)) ti25 rfl fun b7 k7 => ?_
  have k7 := pick_wd k7
  have s7 : ∀ j, j < n6 → (upd (upd h6 n6 (some (Blk.row (Cont.l [AVal.int IntKind.u64 0, AVal.int IntKind.u64 0, AVal.int IntKind.u64 0, AVal.int IntKind.u64 0]) 25))) n6 (some b7)) j = h6 j := fun j hj => by rw [upd_ne _ _ (by omega), upd_ne _ _ (by omega)]
  have f7 : Free (upd (upd h6 n6 (some (Blk.row (Cont.l [AVal.int IntKind.u64 0, AVal.int IntKind.u64 0, AVal.int IntKind.u64 0, AVal.int IntKind.u64 0]) 25))) n6 (some b7)) (n6 + 1) := f6.new.upd (by omega)
  generalize upd (upd h6 n6 (some (Blk.row (Cont.l [AVal.int IntKind.u64 0, AVal.int IntKind.u64 0, AVal.int IntKind.u64 0, AVal.int IntKind.u64 0]) 25))) n6 (some b7) = H7 at *
  have k5 := k5.keep (s7 _ (by omega))
  have k2 := k2.keep (s7 _ (by omega))
  have o7 : Old h H7 n := fun j hj => by rw [s7 j (by omega), o6 j (by omega)]; exact o5 j hj
  by_cases hi : 33 < s
  · have e := expV_hi (n := c) (by omega)
    have c1 : ¬ ((s : Nat) : Int) < 3 := by omega
    have c2 : 33 < ((s : Nat) : Int) := by omega
    simp only [core1, fgr, execOp, opd, ofValue, ops2, putT, put, nth, forgetL, bor, binInt, shiftB, intOp, gt_iff_lt, decide_true, decide_false, c1, c2]
    simp (disch := omega) only [core1, tyr, execOp, opd, putT, put, nth, sizeOf, cel, getO, build, fill]
    refine opv_all4 k2 ti25 rfl fun bb hbb => ?_
    simp only [core1, fgr, execOp, opd, ofValue, putT, put, nth, forgetL, true_and, wp_pure, wp_rd (hbb.all ti25 rfl rfl), range4, pick4]
    exact ⟨by rw [expA, e]; rfl, fun j hj => by rw [upd_ne _ _ (by omega)]; exact o7 j hj⟩
  have c2 : ¬ 33 < ((s : Nat) : Int) := by omega
  obtain ⟨x, ex⟩ : ∃ x, x = expX c % b256 := ⟨_, rfl⟩
  have hx : x < b256 := by rw [ex]; exact Nat.mod_lt _ (by decide)
  by_cases c1 : s < 3
  case' pos =>
    have c1i : ((s : Nat) : Int) < 3 := by omega
    have q2 : IntKind.i64.wrap (8 * IntKind.i64.wrap (3 - ((s : Nat) : Int))) = ((8 * (3 - s) : Nat) : Int) := by rw [w64 (n := 3 - ((s : Nat) : Int)) (by omega) (by omega), w64 (by omega) (by omega)]; omega
    have hxr : rightV m ((8 * (3 - s) : Nat) : Int) = x := by
      unfold rightV
      rw [if_neg (by omega), Int.toNat_natCast, ex]
      unfold expX
      rw [← es, ← em, if_pos c1, Nat.mod_eq_of_lt]
      exact Nat.lt_of_le_of_lt (Nat.div_le_self _ _) hmb
    simp only [core1, fgr, execOp, opd, ofValue, putT, put, nth, forgetL, bor, binInt, shiftB, intOp, decide_true, c1i]
    rw [opv_rd (k5.all ti25 rfl rfl), range4]
    simp only [core1, hkr, execOp, opd, opds, ofValue, putT, put, nth, doCall, callV_func, bor, binInt, shiftB, intOp, wrapI, List.nil_append, List.append_nil, decide_true, q2]
    refine opv_callf f7 (f51 m ((8 * (3 - s) : Nat) : Int) _ _ hmb f7) fun v8 h8 n8 hn8 f8 ⟨e8, o8⟩ => ?_
    subst e8
    rw [hxr]
    simp only [core1, execOp, opd, putT, put, nth, W]
    refine opv_all4 (k7.keep (o8 _ (by omega))) ti25 rfl fun b8 k8 => ?_
    have k8 := pick_wd k8
    have k2 := (k2.keep (o8 _ (by omega))).upd (i := n6) (b := some b8) (by omega)
    have o8 : Old h (upd h8 n6 (some b8)) n := fun j hj => by rw [upd_ne _ _ (by omega), o8 j (by omega)]; exact o7 j hj
    have f8 : Free (upd h8 n6 (some b8)) n8 := f8.upd (by omega)
    generalize upd h8 n6 (some b8) = H8 at *
    simp only [core1, fgr, execOp, opd, ofValue, putT, put, nth, forgetL, bor, binInt, shiftB, intOp, gt_iff_lt, decide_true, decide_false, c2]
  case' neg =>
    have c1i : ¬ ((s : Nat) : Int) < 3 := by omega
    have hxl : leftV m (8 * (((s : Nat) : Int) - 3)) = x := by
      rw [ex]
      unfold expX
      rw [← es, ← em, if_neg c1]
      unfold leftV
      by_cases q : s = 3
      · rw [if_pos (by omega), q, Nat.sub_self, Nat.mul_zero, Nat.pow_zero, Nat.mul_one, Nat.mod_eq_of_lt hmb]
      · rw [if_neg (by omega), show (8 * (((s : Nat) : Int) - 3)).toNat = 8 * (s - 3) by omega]
    rw [hxl] at k7
    have k8 := k7
    obtain ⟨n8, en8⟩ : ∃ n8, n8 = n6 + 1 := ⟨_, rfl⟩
    have hn8 : n6 + 1 ≤ n8 := by omega
    have f8 := f7
    have o8 := o7
    rw [← en8] at f8 ⊢
    generalize H7 = H8 at *
    simp only [core1, fgr, execOp, opd, ofValue, putT, put, nth, forgetL, bor, binInt, shiftB, intOp, gt_iff_lt, decide_true, decide_false, c1i, c2]
  all_goals
    rw [opv_rd (k8.all ti25 rfl rfl), range4]
    simp only [core1, hkr, execOp, opd, opds, putT, put, nth, doCall, callV_func, List.nil_append, List.append_nil]
    refine opv_callf f8 (f15 x _ _ hx f8) fun v9 h9 n9 hn9 f9 ⟨e9, o9⟩ => ?_
    subst e9
    have k8 := k8.keep (o9 _ (by omega))
    have k2 := k2.keep (o9 _ (by omega))
    have o9 : Old h h9 n := fun j hj => by rw [o9 j (by omega)]; exact o8 j hj
    by_cases x0 : x = 0
    · have e : expV c = none := expV_no fun l1 l2 _ => l2 (by rw [ex, Nat.mod_eq_of_lt l1] at x0; exact x0)
      simp only [compA, if_pos x0]
      simp (disch := omega) only [core1, tyr, fgr, execOp, opd, ofValue, ops2, putT, put, nth, forgetL, sizeOf, bor, binInt, shiftB, intOp, doPick, branch, cel, extract, getO, List.getElem?_cons_succ, List.getElem?_cons_zero, int_bne, Int.reduceEq, not_false_eq_true, decide_true, build, fill]
      refine opv_all4 k2 ti25 rfl fun bb hbb => ?_
      simp only [core1, fgr, execOp, opd, ofValue, putT, put, nth, forgetL, true_and, wp_pure, wp_rd (hbb.all ti25 rfl rfl), range4, pick4]
      exact ⟨by rw [expA, e]; rfl, fun j hj => by rw [upd_ne _ _ (by omega)]; exact o9 j hj⟩
    simp only [compA, if_neg x0]
    by_cases ce : compV x = c
    · have hX : x = expX c := by
        rw [ex, Nat.mod_eq_of_lt]
        by_cases c1 : s < 3
        · unfold expX
          rw [← es, ← em, if_pos c1]
          exact Nat.lt_of_le_of_lt (Nat.div_le_self _ _) hmb
        · exact exp_trunc hx ce (by omega) ex
      have e := expV_x hX hx x0 ce
      simp only [core1, fgr, execOp, opd, ofValue, putT, put, nth, forgetL, bor, binInt, shiftB, intOp, doPick, branch, extract, getO, List.getElem?_cons_succ, List.getElem?_cons_zero, decide_true, bne_self_eq_false, ce]
      rw [opv_rd (k8.all ti25 rfl rfl), range4]
      simp only [core1, execOp, opd, putT, put, nth]
      refine opv_all4 k2 ti25 rfl fun bb hbb => ?_
      simp only [core1, fgr, execOp, opd, ofValue, putT, put, nth, forgetL, true_and, wp_pure, wp_rd (hbb.all ti25 rfl rfl), range4, pick4]
      exact ⟨by rw [expA, e]; rfl, fun j hj => by rw [upd_ne _ _ (by omega)]; exact o9 j hj⟩
    · have e : expV c = none := expV_no fun l1 l2 l3 => ce (by rw [ex, Nat.mod_eq_of_lt l1]; exact l3)
      have cei : ¬ ((compV x : Nat) : Int) = ((c : Nat) : Int) := by omega
      simp (disch := omega) only [core1, tyr, fgr, execOp, opd, ofValue, ops2, putT, put, nth, forgetL, sizeOf, bor, binInt, shiftB, intOp, doPick, branch, cel, extract, getO, List.getElem?_cons_succ, List.getElem?_cons_zero, int_bne, not_false_eq_true, decide_true, bne_self_eq_false, build, fill, cei]
      refine opv_all4 k2 ti25 rfl fun bb hbb => ?_
      simp only [core1, fgr, execOp, opd, ofValue, putT, put, nth, forgetL, true_and, wp_pure, wp_rd (hbb.all ti25 rfl rfl), range4, pick4]
      exact ⟨by rw [expA, e]; rfl, fun j hj => by rw [upd_ne _ _ (by omega)]; exact o9 j hj⟩
/- A number's compact form: the document's. -/
def padN (a j : Nat) : Nat := if j < 3 then 0 else byN a (j - 3)
theorem padN_eq (a j : Nat) : a * 2 ^ 24 / 2 ^ (8 * j) % 256 = padN a j := by
  unfold padN byN
  rw [mul_pow_div]
  by_cases h : j < 3
  · rw [if_pos h, show 8 * j - 24 = 0 by omega, Nat.pow_zero, Nat.div_one, show 24 - 8 * j = 8 * (2 - j) + 8 by omega, Nat.pow_add, ← Nat.mul_assoc]
    exact Nat.mul_mod_left _ _
  · rw [if_neg h, show 24 - 8 * j = 0 by omega, Nat.pow_zero, Nat.mul_one, show 8 * j - 24 = 8 * (j - 3) by omega]
theorem padN_lt (a j : Nat) : padN a j < 256 := by
  rw [← padN_eq]; exact Nat.mod_lt _ (by decide)
theorem mant_bytes (a : Nat) : mantV a = padN a (bsz a) + 256 * padN a (bsz a + 1) + 65536 * padN a (bsz a + 2) := by
  have hl := mantV_lt a
  rw [mantV_eq] at hl ⊢
  rw [← padN_eq, ← padN_eq, ← padN_eq]
  unfold manS at hl ⊢
  rw [show 8 * (bsz a + 1) = 8 * bsz a + 8 by omega, show 8 * (bsz a + 2) = 8 * bsz a + 16 by omega, Nat.pow_add, Nat.pow_add, ← Nat.div_div_eq_div_mul, ← Nat.div_div_eq_div_mul]
  generalize a * 2 ^ 24 / 2 ^ (8 * bsz a) = M at *
  omega
theorem sz_len {a L : Nat} (hL : isLen a L) : (L + 7) / 8 = bsz a := by
  refine isSz.eq ⟨Nat.lt_of_lt_of_le hL.1 (Nat.pow_le_pow_right (by decide) (by omega)), ?_⟩
  rcases hL.2 with h | h
  · left; omega
  · by_cases c : L = 0
    · left; omega
    · exact .inr (Nat.le_trans (Nat.pow_le_pow_right (by decide) (by omega)) h)
theorem wp_app_pad {h : Hp} {n ix iy e1 a : Nat} {y : AVal} (b1 : ix < n) (r1 : h ix = some (.row (.l [.int .u8 0, .int .u8 0, .int .u8 0]) e1)) (hy : y = .sl iy 0 32 (some 32) 1) (hn : Nums .u8 h y iy 0 32 32 (fun j => (byN a j : Nat))) :
    Wp (bAppend env [86, 86] (.sl ix 0 3 (some 3) 1) y) h n fun v' h' n' => v' = .sl n 0 35 none 1 ∧ n' = n + 1 ∧ Nums .u8 h' v' n 0 35 35 (fun j => (padN a j : Nat)) ∧ ∀ j, j ≠ n → j ≠ ix → h' j = h j := by
  subst hy
  obtain ⟨_, _, e2, r2⟩ := hn
  refine wp_append_x (i := ty5.i) (e := 5) (xs := cellsF .u8 3 (fun _ => 0)) (ys := cellsF .u8 32 (fun j => (byN a j : Nat))) (cnt := 3) (k := 32) (.full ix 3 _ e1 b1 r1 (by rw [cellsF_len]; rfl)) rfl rfl (show ti env 5 = M.pure ty5.i from rfl) rfl ?_ (by rw [cellsF_len]; rfl) (by decide) (by decide) (cellsF_one _ _ _) (by decide) (by decide) ?_
  · intro α f Q
    have htake : ((cellsF .u8 32 (fun j => ((byN a j : Nat) : Int))).drop 0).take (32 * 1) = cellsF .u8 32 (fun j => (byN a j : Nat)) := by rw [List.drop_zero, List.take_of_length_le (by rw [cellsF_len]; decide)]
    show Wp ((sliceCells 1 32 (AVal.sl iy 0 32 (some 32) 1)).bind f) _ _ _ ↔ _
    simp only [sliceCells, sameSz, bind_assoc, wp_get, r2, Option.some.injEq, exists_eq_left', rowK, wp_ob, bind_pure, Cont.size, Cont.sub, Nat.zero_add, htake, cellsF_len, Nat.mul_one, Nat.ble_self_eq_true, true_and]
  · intro h' hh' hold'
    refine ⟨rfl, rfl, ⟨⟨_, rfl⟩, by decide, 5, ?_⟩, fun j h1 h2 => hold' j h1 (fun q => h2 (by injection q with q; exact q.symm))⟩
    rw [hh', cellsF_app]
    have : cellsF .u8 (3 + 32) (fun j => if j < 3 then 0 else ((byN a (j - 3) : Nat) : Int)) = cellsF .u8 35 (fun j => (padN a j : Nat)) := cellsF_ext fun j hj => by
      unfold padN
      split <;> rfl
    rw [this]
set_option maxHeartbeats 4000000 in
theorem f22 (a : Nat) (h : Hp) (n : Nat) (ha : a < b256) (hf : Free h n) : Wp (callI env (evalW env) 22 [W a]) h n fun v' h' n' => v' = compA a ∧ Old h h' n := by
  refine wp_callI ff22 fi22 ?_
  have kb : Arr .u64 (upd h n (some (Blk.row (Cont.l [AVal.int IntKind.u64 (wd a 0 : Nat), AVal.int IntKind.u64 (wd a 1 : Nat), AVal.int IntKind.u64 (wd a 2 : Nat), AVal.int IntKind.u64 (wd a 3 : Nat)]) 25))) n 4 (fun j => (wd a j : Nat)) := arr_W (upd_same _ _ _)
  simp only [fu22, Try.f22, Option.getD_some, List.replicate, core1, tyr, fgr, execOp, opd, ofValue, putT, put, nth, forgetL, cel, alloc, newRow, ended, resultOf, oneOrTup, List.cons_append, List.nil_append, List.length_cons, List.length_nil, Nat.reduceSub, Nat.zero_add, wp_pure, W]
  rw [opv_rd (kb.all ti25 rfl rfl), range4]
  simp only [core1, hkr, execOp, opd, opds, putT, put, nth, doCall, callV_func, List.nil_append, List.append_nil]
  refine opv_callf hf.new (f41 a _ _ ha hf.new) fun v1 h1 n1 hn1 f1 ⟨e1, o1⟩ => ?_
  subst e1
  by_cases h0 : a = 0
  · simp only [core1, fgr, execOp, opd, ofValue, putT, put, nth, forgetL, ↓reduceIte, decide_true, true_and, h0, compA]
    exact fun j hj => by rw [o1 j (by omega), upd_ne _ _ (by omega)]
  have k1 := kb.keep (o1 _ (by omega))
  have o1 : Old h h1 n := fun j hj => by rw [o1 j (by omega), upd_ne _ _ (by omega)]
  simp only [core1, fgr, execOp, opd, putT, put, nth, forgetL, decide_false, h0]
  rw [opv_rd (k1.all ti25 rfl rfl), range4]
  simp only [core1, hkr, execOp, opd, opds, putT, put, nth, doCall, callV_func, List.nil_append, List.append_nil]
  refine opv_callf f1 (f45 a _ _ ha f1) fun v2 h2 n2 hn2 f2 ⟨⟨L, e2, hL, hl⟩, o2⟩ => ?_
  subst e2
  have k2 := k1.keep (o2 _ (by omega))
  have o2 : Old h h2 n := fun j hj => by rw [o2 j (by omega)]; exact o1 j hj
  have hs := sz_len hl
  have q1 : IntKind.i64.wrap (Int.tdiv (IntKind.i64.wrap (((L : Nat) : Int) + 7)) 8) = ((bsz a : Nat) : Int) := by
    rw [w64 (n := ((L : Nat) : Int) + 7) (by omega) (by omega), Int.tdiv_eq_ediv_of_nonneg (by omega), w64 (by omega) (by omega)]; omega
  have hs32 := bsz_le ha
  have hs0 := bsz_pos h0
  simp only [core1, tyr, fgr, execOp, opd, ofValue, ops2, putT, put, nth, forgetL, und, bor, binInt, shiftB, intOp, wrapI, cel, newRow, getO, List.cons_append, List.nil_append, List.append_nil, List.length_cons, List.length_nil, Nat.reduceAdd, Nat.beq, Int.reduceEq, not_false_eq_true, decide_true, Bool.not_false, Bool.and_true, Bool.true_and, true_and, Nat.zero_add, Nat.zero_mul, buildSlice, reps, fill, List.take_succ_cons, List.take_zero, List.drop_succ_cons, List.drop_zero, Nat.ble, Nat.mul_one, Nat.one_mul, ne_eq, true_and, List.length_cons, List.length_nil, Nat.zero_mul, q1]
  rw [opv_rd ((k2.upd (by omega)).all ti25 rfl rfl), range4]
  simp only [core1, hkr, execOp, opd, opds, putT, put, nth, doCall, callV_func, List.nil_append, List.append_nil]
  refine opv_callf f2.new (f53 a _ _ f2.new) fun v3 h3 n3 hn3 f3 ⟨id3, y3⟩ => ?_
  have e3 := y3.eq
  have yo := y3.old
  have yg := y3.ge
  have yl := y3.lt
  have yn := y3.nums
  subst e3
  simp only [core1, execOp, opd, opds, putT, put, nth, doCall, builtin, two2]
  refine opv_callf f3 (wp_app_pad (a := a) (show n2 < n3 by omega) ((yo n2 (by omega)).trans (upd_same _ _ _)) rfl yn) fun v4 h4 n4 hn4 f4 ⟨e4, en4, k4, o4⟩ => ?_
  subst e4; subst en4
  have o4 : Old h h4 n := fun j hj => by rw [o4 j (by omega) (by omega), yo j (by omega), upd_ne _ _ (by omega)]; exact o2 j hj
  have w1 : IntKind.i64.wrap (((bsz a : Nat) : Int) + 1) = ((bsz a + 1 : Nat) : Int) := by rw [w64 (by omega) (by omega)]; omega
  have w2 : IntKind.i64.wrap (((bsz a : Nat) : Int) + 2) = ((bsz a + 2 : Nat) : Int) := by rw [w64 (by omega) (by omega)]; omega
  have p0 := padN_lt a (bsz a)
  have p1 := padN_lt a (bsz a + 1)
  have p2 := padN_lt a (bsz a + 2)
  have c0 : IntKind.u32.wrap ((padN a (bsz a) : Nat) : Int) = ((padN a (bsz a) : Nat) : Int) := wu32 (by omega) (by omega)
  have c1 : IntKind.u32.wrap ((padN a (bsz a + 1) : Nat) : Int) = ((padN a (bsz a + 1) : Nat) : Int) := wu32 (by omega) (by omega)
  have c2 : IntKind.u32.wrap ((padN a (bsz a + 2) : Nat) : Int) = ((padN a (bsz a + 2) : Nat) : Int) := wu32 (by omega) (by omega)
  have c3 : IntKind.u32.wrap (256 * ((padN a (bsz a + 1) : Nat) : Int)) = ((256 * padN a (bsz a + 1) : Nat) : Int) := by rw [wu32 (by omega) (by omega)]; omega
  have c4 : IntKind.u32.wrap (65536 * ((padN a (bsz a + 2) : Nat) : Int)) = ((65536 * padN a (bsz a + 2) : Nat) : Int) := by rw [wu32 (by omega) (by omega)]; omega
  have hm := mant_bytes a
  have c5 : IntKind.u32.wrap (((padN a (bsz a) : Nat) : Int) + ((256 * padN a (bsz a + 1) : Nat) : Int)) = ((padN a (bsz a) + 256 * padN a (bsz a + 1) : Nat) : Int) := by rw [wu32 (by omega) (by omega)]; omega
  have c6 : IntKind.u32.wrap (((padN a (bsz a) + 256 * padN a (bsz a + 1) : Nat) : Int) + ((65536 * padN a (bsz a + 2) : Nat) : Int)) = ((mantV a : Nat) : Int) := by rw [wu32 (by omega) (by omega)]; omega
  simp only [core1, fgr, execOp, opd, putT, put, nth, forgetL]
  refine run_draw.2 ⟨rfl, ?_⟩
  simp only [fe_cons, fev_pure, execOp, opd, putT, put, nth, Nat.reduceAdd, Nat.zero_add]
  rw [fev_rd (k4.idx0 t86 s5 rfl (show bsz a < 35 by omega))]
  simp only [fe_cons, execOp, opd, putT, put, nth, Nat.reduceAdd]
  rw [fev_rd (k4.load0 ti5 rfl (show bsz a < 35 by omega))]
  simp only [fe_cons, fev_pure, core1, tyr, execOp, opd, ofValue, putT, put, nth, und, lenOf, bor, binInt, shiftB, intOp, wrapI, strK, intK, Nat.reduceAdd, decide_true, convert, convStr, isU8, c0, w1]
  rw [fev_rd (k4.idx0 t86 s5 rfl (show bsz a + 1 < 35 by omega))]
  simp only [fe_cons, execOp, opd, putT, put, nth, Nat.reduceAdd]
  rw [fev_rd (k4.load0 ti5 rfl (show bsz a + 1 < 35 by omega))]
  simp only [fe_cons, fev_pure, core1, tyr, execOp, opd, ofValue, putT, put, nth, und, lenOf, bor, binInt, shiftB, intOp, wrapI, strK, intK, Nat.reduceAdd, decide_true, convert, convStr, isU8, c1, c3, c5, w2]
  rw [fev_rd (k4.idx0 t86 s5 rfl (show bsz a + 2 < 35 by omega))]
  simp only [fe_cons, execOp, opd, putT, put, nth, Nat.reduceAdd]
  rw [fev_rd (k4.load0 ti5 rfl (show bsz a + 2 < 35 by omega))]
  simp only [fe_nil, fe_cons, fev_pure, core1, tyr, fgr, execOp, opd, ofValue, putT, put, nth, forgetL, und, lenOf, bor, binInt, shiftB, intOp, wrapI, strK, intK, Nat.reduceAdd, ge_iff_le, decide_true, convert, convStr, isU8, c2, c4, c6]
  refine ⟨(by (try simp (disch := omega) only [fine, List.all_cons, List.all_nil, clash_pr, clash_rr, Bool.not_false, Bool.true_or, Bool.and_true]); repeat' (first | rfl | exact (Bool.or_eq_true _ _).mpr (.inr rfl) | refine (Bool.and_eq_true _ _).mpr ⟨?_, ?_⟩)), ?_⟩
  have hml := mantV_lt a
  by_cases c : 8388608 ≤ mantV a
  · have ci : (8388608 : Int) ≤ ((mantV a : Nat) : Int) := by omega
    have dv : IntKind.u32.wrap (Int.tdiv ((mantV a : Nat) : Int) 256) = ((mantV a / 256 : Nat) : Int) := by rw [Int.tdiv_eq_ediv_of_nonneg (by omega), wu32 (by omega) (by omega)]; omega
    have cv : IntKind.u32.wrap ((bsz a + 1 : Nat) : Int) = ((bsz a + 1 : Nat) : Int) := wu32 (by omega) (by omega)
    have ml : IntKind.u32.wrap (((bsz a + 1 : Nat) : Int) * 16777216) = (((bsz a + 1) * 16777216 : Nat) : Int) := by rw [wu32 (by omega) (by omega)]; omega
    have ad : IntKind.u32.wrap ((((bsz a + 1) * 16777216 : Nat) : Int) + ((mantV a / 256 : Nat) : Int)) = ((compV a : Nat) : Int) := by
      unfold compV
      rw [if_pos c, wu32 (by omega) (by omega)]; omega
    simp only [core1, tyr, fgr, execOp, opd, ofValue, putT, put, nth, forgetL, und, lenOf, bor, binInt, shiftB, intOp, wrapI, strK, intK, Int.reduceNe, decide_true, true_and, convert, convStr, isU8, ci, dv, w1, cv, ml, ad, compA, if_neg h0]
    exact o4
  · have ci : ¬ (8388608 : Int) ≤ ((mantV a : Nat) : Int) := by omega
    have cv : IntKind.u32.wrap ((bsz a : Nat) : Int) = ((bsz a : Nat) : Int) := wu32 (by omega) (by omega)
    have ml : IntKind.u32.wrap (((bsz a : Nat) : Int) * 16777216) = (((bsz a) * 16777216 : Nat) : Int) := by rw [wu32 (by omega) (by omega)]; omega
    have ad : IntKind.u32.wrap ((((bsz a) * 16777216 : Nat) : Int) + ((mantV a : Nat) : Int)) = ((compV a : Nat) : Int) := by
      unfold compV
      rw [if_neg c, wu32 (by omega) (by omega)]; omega
    simp only [core1, tyr, fgr, execOp, opd, ofValue, putT, put, nth, forgetL, und, lenOf, bor, binInt, shiftB, intOp, wrapI, strK, intK, decide_true, decide_false, true_and, convert, convStr, isU8, ci, cv, ml, ad, compA, if_neg h0]
    exact o4
/- What a compact form stands for: the document's. -/
theorem loop21a (Q : Post0) (ks : List Kf) (h : Hp) (n : Nat) (p0 p2 p3 : AVal) (S M : Nat)
    (hq : ∀ (x6 x7 x8 x9 x16 x26 x31 x46 : AVal), Kont env 21 none Q ks (.exit 0) (p0 :: AVal.junk :: p2 :: p3 :: .int .i64 (S : Nat) :: .int .u32 (M : Nat) :: x6 :: x7 :: x8 :: x9 :: AVal.junk :: AVal.junk :: AVal.junk :: AVal.junk :: AVal.junk :: AVal.junk :: x16 :: AVal.junk :: AVal.junk :: AVal.junk :: AVal.junk :: AVal.junk :: AVal.junk :: AVal.junk :: AVal.junk :: AVal.junk :: x26 :: AVal.junk :: AVal.junk :: AVal.junk :: AVal.junk :: x31 :: AVal.junk :: AVal.junk :: AVal.junk :: AVal.junk :: AVal.junk :: AVal.junk :: AVal.junk :: AVal.junk :: AVal.junk :: AVal.junk :: AVal.junk :: AVal.junk :: AVal.junk :: AVal.junk :: x46 :: AVal.junk :: AVal.junk :: []) h n) :
    ∀ (k s m : Nat) (x6 x7 x8 x9 x16 x26 x31 x46 : AVal), S = s + k → (k = 0 ∨ S = 3) → 3 ≤ S → M = m / 2 ^ (8 * k) → S < 256 → m < 8388608 →
    Run env 21 none Q (.loop lp21_0) ks (p0 :: AVal.junk :: p2 :: p3 :: .int .i64 (s : Nat) :: .int .u32 (m : Nat) :: x6 :: x7 :: x8 :: x9 :: AVal.junk :: AVal.junk :: AVal.junk :: AVal.junk :: AVal.junk :: AVal.junk :: x16 :: AVal.junk :: AVal.junk :: AVal.junk :: AVal.junk :: AVal.junk :: AVal.junk :: AVal.junk :: AVal.junk :: AVal.junk :: x26 :: AVal.junk :: AVal.junk :: AVal.junk :: AVal.junk :: x31 :: AVal.junk :: AVal.junk :: AVal.junk :: AVal.junk :: AVal.junk :: AVal.junk :: AVal.junk :: AVal.junk :: AVal.junk :: AVal.junk :: AVal.junk :: AVal.junk :: AVal.junk :: AVal.junk :: x46 :: AVal.junk :: AVal.junk :: []) h n := by
  intro k
  induction k with
  | zero =>
    intro s m x6 x7 x8 x9 x16 x26 x31 x46 hS hk h3 hM hl hm
    have hc : ¬ ((s : Nat) : Int) < 3 := by omega
    rw [Nat.mul_zero, Nat.pow_zero, Nat.div_one] at hM
    subst hM
    have : s = S := by omega
    subst this
    rw [run_loop]
    simp only [lp21_0, loopsOf, Try.f21, Option.getD_some, core1, fgr, execOp, opd, ofValue, putT, put, nth, forgetL, bor, binInt, shiftB, intOp, List.cons_append, List.nil_append, List.append_nil, decide_true, decide_false, List.getD_cons_zero, hc]
    exact hq _ _ _ _ _ _ _ _
  | succ k ih =>
    intro s m x6 x7 x8 x9 x16 x26 x31 x46 hS hk h3 hM hl hm
    have hc : ((s : Nat) : Int) < 3 := by omega
    have hw : IntKind.i64.wrap (((s : Nat) : Int) + 1) = ((s + 1 : Nat) : Int) := by rw [w64 (by omega) (by omega)]; omega
    have dv : IntKind.u32.wrap (Int.tdiv ((m : Nat) : Int) 256) = ((m / 256 : Nat) : Int) := by rw [Int.tdiv_eq_ediv_of_nonneg (by omega), wu32 (by omega) (by omega)]; omega
    rw [run_loop]
    simp only [lp21_0, loopsOf, Try.f21, Option.getD_some, core1, fgr, execOp, opd, ofValue, putT, put, nth, forgetL, bor, binInt, shiftB, intOp, wrapI, List.cons_append, List.nil_append, List.append_nil, Int.reduceNe, decide_true, true_and, List.getD_cons_zero, hc, hw, dv]
    refine ih (s + 1) (m / 256) _ _ _ _ _ _ _ _ (by omega) (by omega) h3 ?_ hl (by omega)
    rw [hM, show 8 * (k + 1) = 8 + 8 * k by omega, Nat.pow_add, ← Nat.div_div_eq_div_mul]
theorem len_248 {x L : Nat} (hl : isLen x L) : 248 < L ↔ 2 ^ 248 ≤ x := by
  constructor
  · intro h
    rcases hl.2 with q | q
    · omega
    · exact Nat.le_trans (Nat.pow_le_pow_right (by decide) (by omega)) q
  · intro h
    by_cases q : 248 < L
    · exact q
    · have : 2 ^ L ≤ 2 ^ 248 := Nat.pow_le_pow_right (by decide) (by omega)
      have := hl.1
      omega
theorem up_248 {x : Nat} : 2 ^ 248 ≤ x ↔ b256 ≤ x * 256 := by
  rw [p256, show (2 : Nat) ^ 256 = 2 ^ 248 * 256 by rw [show (256 : Nat) = 2 ^ 8 from rfl, ← Nat.pow_add]]
  omega
set_option maxHeartbeats 1000000 in
theorem loop21b (Q : Post0) (ks : List Kf) (p0 : AVal) (N m S i2 i6 : Nat) (d : i2 ≠ i6) (hN : N ≤ i2 ∧ N ≤ i6) (hS : S < 256) (h0 : Hp)
    (hE : ∀ (h : Hp) (n : Nat) (x5 x7 x8 x9 x16 x26 x31 x46 : AVal), m * 2 ^ (8 * (S - 3)) < b256 → Arr .u64 h i2 4 (fun _ => 0) → Arr .u64 h i6 4 (fun j => (wd (m * 2 ^ (8 * (S - 3))) j : Nat)) → i2 < n → i6 < n → Free h n → Old h0 h N → Kont env 21 none Q ks (.exit 2) (p0 :: AVal.junk :: .ptr i2 0 :: .int .i64 0 :: .int .i64 (S : Nat) :: x5 :: .ptr i6 0 :: x7 :: x8 :: x9 :: AVal.junk :: AVal.junk :: AVal.junk :: AVal.junk :: AVal.junk :: AVal.junk :: x16 :: AVal.junk :: AVal.junk :: AVal.junk :: AVal.junk :: AVal.junk :: AVal.junk :: AVal.junk :: AVal.junk :: AVal.junk :: x26 :: AVal.junk :: AVal.junk :: AVal.junk :: AVal.junk :: x31 :: AVal.junk :: AVal.junk :: AVal.junk :: AVal.junk :: AVal.junk :: AVal.junk :: AVal.junk :: AVal.junk :: AVal.junk :: AVal.junk :: AVal.junk :: AVal.junk :: AVal.junk :: AVal.junk :: x46 :: AVal.junk :: AVal.junk :: []) h n)
    (hR : ∀ (h : Hp) (n : Nat) (x4 x5 x6 x7 x8 x9 x16 x26 x31 x46 : AVal), b256 ≤ m * 2 ^ (8 * (S - 3)) → Arr .u64 h i2 4 (fun j => (wd 0 j : Nat)) → Old h0 h N → Kont env 21 none Q ks .ret (p0 :: AVal.junk :: .ptr i2 0 :: .int .i64 50 :: x4 :: x5 :: x6 :: x7 :: x8 :: x9 :: AVal.junk :: AVal.junk :: AVal.junk :: AVal.junk :: AVal.junk :: AVal.junk :: x16 :: AVal.junk :: AVal.junk :: AVal.junk :: AVal.junk :: AVal.junk :: AVal.junk :: AVal.junk :: AVal.junk :: AVal.junk :: x26 :: AVal.junk :: AVal.junk :: AVal.junk :: AVal.junk :: x31 :: AVal.junk :: AVal.junk :: AVal.junk :: AVal.junk :: AVal.junk :: AVal.junk :: AVal.junk :: AVal.junk :: AVal.junk :: AVal.junk :: AVal.junk :: AVal.junk :: AVal.junk :: AVal.junk :: x46 :: AVal.junk :: AVal.junk :: []) h n) :
    ∀ (k i x : Nat) (h : Hp) (n : Nat) (x5 x8 x9 x16 x26 x31 x46 : AVal), i + k = S → 3 ≤ i → x = m * 2 ^ (8 * (i - 3)) → x < b256 → Arr .u64 h i2 4 (fun _ => 0) → Arr .u64 h i6 4 (fun j => (wd x j : Nat)) → i2 < n → i6 < n → Free h n → Old h0 h N →
    Run env 21 none Q (.loop lp21_1) ks (p0 :: AVal.junk :: .ptr i2 0 :: .int .i64 0 :: .int .i64 (S : Nat) :: x5 :: .ptr i6 0 :: .int .i64 (i : Nat) :: x8 :: x9 :: AVal.junk :: AVal.junk :: AVal.junk :: AVal.junk :: AVal.junk :: AVal.junk :: x16 :: AVal.junk :: AVal.junk :: AVal.junk :: AVal.junk :: AVal.junk :: AVal.junk :: AVal.junk :: AVal.junk :: AVal.junk :: x26 :: AVal.junk :: AVal.junk :: AVal.junk :: AVal.junk :: x31 :: AVal.junk :: AVal.junk :: AVal.junk :: AVal.junk :: AVal.junk :: AVal.junk :: AVal.junk :: AVal.junk :: AVal.junk :: AVal.junk :: AVal.junk :: AVal.junk :: AVal.junk :: AVal.junk :: x46 :: AVal.junk :: AVal.junk :: []) h n := by
  intro k
  induction k with
  | zero =>
    intro i x h n x5 x8 x9 x16 x26 x31 x46 hi h3 hx hlt a2 a6 b2 b6 hf ho
    have : i = S := by omega
    subst this
    have hc : ¬ ((i : Nat) : Int) < ((i : Nat) : Int) := by omega
    subst hx
    rw [run_loop]
    simp only [lp21_1, loopsOf, Try.f21, Option.getD_some, core1, fgr, execOp, opd, putT, put, nth, forgetL, bor, binInt, shiftB, intOp, List.cons_append, List.nil_append, List.append_nil, decide_true, decide_false, List.getD_cons_zero, List.getD_cons_succ, hc]
    exact hE h n _ _ _ _ _ _ _ _ hlt a2 a6 b2 b6 hf ho
  | succ k ih =>
    intro i x h n x5 x8 x9 x16 x26 x31 x46 hi h3 hx hlt a2 a6 b2 b6 hf ho
    have hc : ((i : Nat) : Int) < ((S : Nat) : Int) := by omega
    have hw : IntKind.i64.wrap (((i : Nat) : Int) + 1) = ((i + 1 : Nat) : Int) := by rw [w64 (by omega) (by omega)]; omega
    have hx2 : x * 256 = m * 2 ^ (8 * (i + 1 - 3)) := by
      rw [hx, show 8 * (i + 1 - 3) = 8 * (i - 3) + 8 by omega, Nat.pow_add, Nat.mul_assoc]
    rw [run_loop]
    simp only [lp21_1, loopsOf, Try.f21, Option.getD_some, core1, fgr, execOp, opd, putT, put, nth, forgetL, bor, binInt, shiftB, intOp, List.cons_append, List.nil_append, List.append_nil, decide_true, List.getD_cons_zero, List.getD_cons_succ, hc]
    rw [opv_rd (a6.all ti25 rfl rfl), range4]
    simp only [core1, hkr, execOp, opd, opds, putT, put, nth, doCall, callV_func, List.nil_append, List.append_nil]
    refine opv_callf hf (f45 x _ _ hlt hf) fun v1 h1 n1 hn1 f1 ⟨⟨L, e1, hL, hl⟩, o1⟩ => ?_
    subst e1
    have a2 := a2.keep (o1 _ b2)
    have a6 := a6.keep (o1 _ b6)
    have ho := ho.trans o1 (by omega)
    by_cases c : 248 < L
    · have ci : (248 : Int) < ((L : Nat) : Int) := by omega
      have big := up_248.1 ((len_248 hl).1 c)
      simp (disch := omega) only [core1, tyr, fgr, execOp, opd, ofValue, ops2, putT, put, nth, forgetL, sizeOf, bor, binInt, shiftB, intOp, cel, getO, gt_iff_lt, decide_true, build, fill, ci]
      refine opv_all4 a2 ti25 rfl fun b9 k9 => ?_
      simp only [core1, fgr, execOp, opd, ofValue, putT, put, forgetL]
      refine hR _ _ _ _ _ _ _ _ _ _ _ _ ?_ (k9.ext fun j hj => ?_) (fun j hj => by rw [upd_ne _ _ (by omega)]; exact ho j hj)
      · rw [hx2] at big
        exact Nat.le_trans big (Nat.mul_le_mul_left _ (Nat.pow_le_pow_right (by decide) (by omega)))
      · match j, hj with
        | 0, _ => rfl
        | 1, _ => rfl
        | 2, _ => rfl
        | 3, _ => rfl
    · have ci : ¬ (248 : Int) < ((L : Nat) : Int) := by omega
      have small : x * 256 < b256 := by
        have := mt (fun q => (len_248 hl).2 (up_248.2 q)) c
        omega
      have hl8 : leftV x 8 = x * 256 := by
        unfold leftV
        rw [if_neg (by decide), show (8 : Int).toNat = 8 from rfl, show (2 : Nat) ^ 8 = 256 from rfl, Nat.mod_eq_of_lt small]
      simp only [core1, fgr, execOp, opd, ofValue, putT, put, nth, forgetL, bor, binInt, shiftB, intOp, gt_iff_lt, decide_true, decide_false, ci]
      rw [opv_rd (a6.all ti25 rfl rfl), range4]
      simp only [core1, hkr, execOp, opd, opds, ofValue, putT, put, nth, doCall, callV_func, List.nil_append, List.append_nil]
      refine opv_callf f1 (f46 x 8 _ _ hlt (by decide) f1) fun v2 h2 n2 hn2 f2 ⟨e2, o2⟩ => ?_
      subst e2
      rw [hl8]
      have a2 := a2.keep (o2 _ (by omega))
      have a6 := a6.keep (o2 _ (by omega))
      have ho := ho.trans o2 (by omega)
      simp only [core1, execOp, opd, putT, put, nth, W]
      refine opv_all4 a6 ti25 rfl fun b9 k9 => ?_
      have k9 := pick_wd k9
      simp only [core1, fgr, execOp, opd, ofValue, putT, put, nth, forgetL, bor, binInt, shiftB, intOp, wrapI, decide_true, hw]
      refine ih (i + 1) (x * 256) _ n2 _ _ _ _ _ _ _ (by omega) (by omega) hx2 small (a2.upd d) k9 (by omega) (by omega) (f2.upd (by omega)) (fun j hj => by rw [upd_ne _ _ (by omega)]; exact ho j hj)
theorem expX_eq (c : Nat) : expX c = c % 8388608 / 2 ^ (8 * (3 - c / 16777216)) * 2 ^ (8 * (max (c / 16777216) 3 - 3)) := by
  unfold expX
  by_cases q : c / 16777216 < 3
  · rw [if_pos q, show max (c / 16777216) 3 - 3 = 0 by omega, Nat.mul_zero, Nat.pow_zero, Nat.mul_one]
  · rw [if_neg q, show 3 - c / 16777216 = 0 by omega, show max (c / 16777216) 3 = c / 16777216 by omega, Nat.mul_zero, Nat.pow_zero, Nat.div_one]
set_option maxHeartbeats 4000000 in
theorem f21 (c : Nat) (h : Hp) (n : Nat) (hc : c < 4294967296) (hf : Free h n) : Wp (callI env (evalW env) 21 [.int .u32 (c : Nat)]) h n fun v' h' n' => v' = expA c ∧ Old h h' n := by
  refine wp_callI ff21 fi21 ?_
  have hS : c / 16777216 < 256 := by omega
  have hm : c % 8388608 < 8388608 := Nat.mod_lt _ (by decide)
  have dv : IntKind.u32.wrap (Int.tdiv ((c : Nat) : Int) 16777216) = ((c / 16777216 : Nat) : Int) := by rw [Int.tdiv_eq_ediv_of_nonneg (by omega), wu32 (by omega) (by omega)]; omega
  have md : Int.tmod ((c : Nat) : Int) 8388608 = ((c % 8388608 : Nat) : Int) := by rw [Int.tmod_eq_emod_of_nonneg (by omega)]; omega
  have cv1 : IntKind.i64.wrap ((c / 16777216 : Nat) : Int) = ((c / 16777216 : Nat) : Int) := w64 (by omega) (by omega)
  have mdw : IntKind.u32.wrap ((c % 8388608 : Nat) : Int) = ((c % 8388608 : Nat) : Int) := wu32 (by omega) (by omega)
  have hX := expX_eq c
  simp only [fu21, Try.f21, Option.getD_some, List.replicate, core1, tyr, fgr, execOp, opd, ofValue, putT, put, nth, forgetL, und, zeroOf, lenOf, bor, binInt, shiftB, intOp, wrapI, strK, intK, cel, alloc, doAlloc, newRow, ended, resultOf, oneOrTup, List.cons_append, List.nil_append, List.length_cons, List.length_nil, Nat.reduceSub, Int.reduceNe, decide_true, true_and, Nat.zero_add, convert, convStr, isU8, dv, md, cv1]
  obtain ⟨S, eS⟩ : ∃ S, S = max (c / 16777216) 3 := ⟨_, rfl⟩
  obtain ⟨M, eM⟩ : ∃ M, M = c % 8388608 / 2 ^ (8 * (3 - c / 16777216)) := ⟨_, rfl⟩
  rw [← eS, ← eM] at hX
  have hMl : M < 8388608 := by rw [eM]; exact Nat.lt_of_le_of_lt (Nat.div_le_self _ _) hm
  have cv2 : IntKind.u64.wrap ((M : Nat) : Int) = ((M : Nat) : Int) := wu64 (by omega) (by omega)
  have k2 : Arr .u64 (upd h n (some (Blk.row (Cont.l [AVal.int IntKind.u64 0, AVal.int IntKind.u64 0, AVal.int IntKind.u64 0, AVal.int IntKind.u64 0]) 25))) n 4 (fun _ => 0) := arr_0 (upd_same _ _ _)
  refine loop21a _ _ _ _ _ _ _ S M ?_ (3 - c / 16777216) (c / 16777216) (c % 8388608) _ _ _ _ _ _ _ _ (by omega) (by omega) (by omega) eM (by omega) hm
  intro x6 x7 x8 x9 x16 x26 x31 x46
  simp only [core1, tyr, hkr, execOp, opd, opds, putT, put, nth, doCall, callV_func, und, lenOf, wrapI, strK, intK, List.nil_append, List.append_nil, convert, convStr, isU8, cv2]
  refine opv_callf hf.new (f43 M _ _ (by omega)) fun v1 h1 n1 hn1 f1 ⟨e1, o1⟩ => ?_
  subst e1
  have k2 := k2.keep (o1 _ (by omega))
  have o1 : Old h h1 n := fun j hj => by rw [o1 j (by omega), upd_ne _ _ (by omega)]
  simp only [core1, tyr, execOp, opd, putT, put, nth, zeroOf, cel, alloc, doAlloc, newRow, W]
  refine opv_all4 (arr_0 (upd_same _ _ _)) ti25 rfl fun b6 k6 => ?_
  have k6 := pick_wd k6
  have s6 : ∀ j, j < n1 → (upd (upd h1 n1 (some (Blk.row (Cont.l [AVal.int IntKind.u64 0, AVal.int IntKind.u64 0, AVal.int IntKind.u64 0, AVal.int IntKind.u64 0]) 25))) n1 (some b6)) j = h1 j := fun j hj => by rw [upd_ne _ _ (by omega), upd_ne _ _ (by omega)]
  have f6 : Free (upd (upd h1 n1 (some (Blk.row (Cont.l [AVal.int IntKind.u64 0, AVal.int IntKind.u64 0, AVal.int IntKind.u64 0, AVal.int IntKind.u64 0]) 25))) n1 (some b6)) (n1 + 1) := f1.new.upd (by omega)
  generalize upd (upd h1 n1 (some (Blk.row (Cont.l [AVal.int IntKind.u64 0, AVal.int IntKind.u64 0, AVal.int IntKind.u64 0, AVal.int IntKind.u64 0]) 25))) n1 (some b6) = H6 at *
  have k2 := k2.keep (s6 _ (by omega))
  have o6 : Old h H6 n := fun j hj => by rw [s6 j (by omega)]; exact o1 j hj
  simp only [core1, fgr, execOp, opd, ofValue, putT, put, forgetL]
  refine loop21b _ _ _ n M S n n1 (by omega) (by omega) (by omega) h ?_ ?_ (S - 3) 3 M H6 (n1 + 1) _ _ _ _ _ _ _ (by omega) (by omega) (by simp) (by unfold b256; omega) k2 k6 (by omega) (by omega) f6 o6
  · intro h3 n3 x5 x7 x8 x9 x16 x26 x31 x46 hlt a2 a6 b2 b6 f3 o3
    rw [← hX] at hlt a6
    obtain ⟨x, ex⟩ : ∃ x, x = expX c := ⟨_, rfl⟩
    rw [← ex] at hlt a6
    simp only [core1, execOp, opd, nth]
    rw [opv_rd (a6.all ti25 rfl rfl), range4]
    simp only [core1, hkr, execOp, opd, opds, putT, put, nth, doCall, callV_func, List.nil_append, List.append_nil]
    refine opv_callf f3 (f22 x _ _ hlt f3) fun v9 h9 n9 hn9 f9 ⟨e9, o9⟩ => ?_
    subst e9
    have a6 := a6.keep (o9 _ (by omega))
    have a2 := a2.keep (o9 _ (by omega))
    have o9 : Old h h9 n := fun j hj => by rw [o9 j (by omega)]; exact o3 j hj
    by_cases x0 : x = 0
    · have e : expV c = none := expV_no fun l1 l2 _ => l2 (by rw [← ex]; exact x0)
      simp only [compA, if_pos x0]
      simp (disch := omega) only [core1, tyr, fgr, execOp, opd, ofValue, ops2, putT, put, nth, forgetL, sizeOf, bor, binInt, shiftB, intOp, doPick, branch, cel, extract, getO, List.getElem?_cons_succ, List.getElem?_cons_zero, int_bne, Int.reduceEq, not_false_eq_true, decide_true, build, fill]
      refine opv_all4 a2 ti25 rfl fun bb hbb => ?_
      simp only [core1, fgr, execOp, opd, ofValue, putT, put, nth, forgetL, true_and, wp_pure, wp_rd (hbb.all ti25 rfl rfl), range4, pick4]
      exact ⟨by rw [expA, e]; rfl, fun j hj => by rw [upd_ne _ _ (by omega)]; exact o9 j hj⟩
    simp only [compA, if_neg x0]
    by_cases ce : compV x = c
    · have e := expV_x ex hlt x0 ce
      simp only [core1, fgr, execOp, opd, ofValue, putT, put, nth, forgetL, bor, binInt, shiftB, intOp, doPick, branch, extract, getO, List.getElem?_cons_succ, List.getElem?_cons_zero, decide_true, bne_self_eq_false, ce]
      rw [opv_rd (a6.all ti25 rfl rfl), range4]
      simp only [core1, execOp, opd, putT, put, nth]
      refine opv_all4 a2 ti25 rfl fun bb hbb => ?_
      simp only [core1, fgr, execOp, opd, ofValue, putT, put, nth, forgetL, true_and, wp_pure, wp_rd (hbb.all ti25 rfl rfl), range4, pick4]
      exact ⟨by rw [expA, e]; rfl, fun j hj => by rw [upd_ne _ _ (by omega)]; exact o9 j hj⟩
    · have e : expV c = none := expV_no fun l1 l2 l3 => ce (by rw [ex]; exact l3)
      have cei : ¬ ((compV x : Nat) : Int) = ((c : Nat) : Int) := by omega
      simp (disch := omega) only [core1, tyr, fgr, execOp, opd, ofValue, ops2, putT, put, nth, forgetL, sizeOf, bor, binInt, shiftB, intOp, doPick, branch, cel, extract, getO, List.getElem?_cons_succ, List.getElem?_cons_zero, int_bne, not_false_eq_true, decide_true, bne_self_eq_false, build, fill, cei]
      refine opv_all4 a2 ti25 rfl fun bb hbb => ?_
      simp only [core1, fgr, execOp, opd, ofValue, putT, put, nth, forgetL, true_and, wp_pure, wp_rd (hbb.all ti25 rfl rfl), range4, pick4]
      exact ⟨by rw [expA, e]; rfl, fun j hj => by rw [upd_ne _ _ (by omega)]; exact o9 j hj⟩
  · intro h3 n3 x4 x5 x6 x7 x8 x9 x16 x26 x31 x46 hge a2 o3
    have e : expV c = none := expV_no fun l1 l2 _ => by omega
    simp only [core1, nth, true_and, wp_pure, wp_rd (a2.all ti25 rfl rfl), range4]
    exact ⟨by rw [expA, e]; rfl, o3⟩
theorem W0 : W 0 = .agg [.int .u64 0, .int .u64 0, .int .u64 0, .int .u64 0] := rfl
/- Forms, works, and what is below: the document's. -/
def expQ (n : Nat) : Nat := (expV n).getD 0
def expE (n : Nat) : Int := match expV n with | none => 50 | some _ => 0
theorem expA_eq (n : Nat) : expA n = .tup [W (expQ n), .int .i64 (expE n)] := by
  unfold expA expQ expE
  cases expV n <;> rfl
def compQ (a : Nat) : Nat := if a = 0 then 0 else compV a
def compE (a : Nat) : Int := if a = 0 then 50 else 0
theorem compA_eq (a : Nat) : compA a = .tup [.int .u32 (compQ a : Nat), .int .i64 (compE a)] := by
  unfold compA compQ compE
  by_cases h : a = 0
  · simp only [if_pos h]; rfl
  · simp only [if_neg h]
theorem wf_nat32 {c : Int} (w : (Lit.int .u32 c).wf = true) : ∃ b : Nat, b < 4294967296 ∧ c = (b : Nat) := by
  simp only [Lit.wf, Bool.and_eq_true, decide_eq_true_eq] at w
  have h1 : IntKind.u32.min = 0 := rfl
  have h2 : IntKind.u32.max = 4294967295 := rfl
  exact ⟨c.toNat, by omega, by omega⟩
theorem expV_some {c x : Nat} (h : expV c = some x) : x < b256 ∧ x ≠ 0 ∧ compV x = c ∧ x = expX c := by
  unfold expV at h
  split at h
  · rename_i q
    injection h with h
    subst h
    exact ⟨q.1, q.2.1, q.2.2, rfl⟩
  · cases h
/-- What a form stands for is near. -/
theorem near {t : Nat} (ht : t < b256) (t0 : t ≠ 0) : ∃ x, expV (compV t) = some x ∧ compV x = compV t ∧ x ≤ t ∧ t - x < 2 ^ (8 * (szC t - 3)) := by
  obtain ⟨c1, c2⟩ := compV_eq t
  have hb := isSz_bsz t
  have hbp := bsz_pos t0
  have hlow : 2 ^ (8 * (bsz t - 1)) ≤ t := hb.2.resolve_left (by omega)
  have hs : compV t / 16777216 = szC t := by rw [c1]; omega
  have hm : compV t % 8388608 = manS t (szC t) := by rw [c1]; omega
  have hX : expX (compV t) = if szC t < 3 then manS t (szC t) / 2 ^ (8 * (3 - szC t)) else manS t (szC t) * 2 ^ (8 * (szC t - 3)) := by
    unfold expX
    rw [hs, hm]
  obtain ⟨x, ex⟩ : ∃ x, x = expX (compV t) := ⟨_, rfl⟩
  have main : manS x (szC t) = manS t (szC t) ∧ x ≤ t ∧ t - x < 2 ^ (8 * (szC t - 3)) := by
    rw [ex, hX]
    by_cases q : szC t < 3
    · rw [if_pos q]
      have e : manS t (szC t) = t * 2 ^ (8 * (3 - szC t)) := by
        unfold manS
        rw [mul_pow_div, show 8 * szC t - 24 = 0 by omega, Nat.pow_zero, Nat.div_one, show 24 - 8 * szC t = 8 * (3 - szC t) by omega]
      have e2 : manS t (szC t) / 2 ^ (8 * (3 - szC t)) = t := by rw [e, Nat.mul_div_cancel _ (Nat.two_pow_pos _)]
      rw [e2]
      exact ⟨rfl, Nat.le_refl _, by rw [Nat.sub_self]; exact Nat.two_pow_pos _⟩
    · rw [if_neg q]
      have e : ∀ y, manS y (szC t) = y / 2 ^ (8 * (szC t - 3)) := fun y => by
        unfold manS
        rw [mul_pow_div, show 24 - 8 * szC t = 0 by omega, Nat.pow_zero, Nat.mul_one, show 8 * szC t - 24 = 8 * (szC t - 3) by omega]
      rw [e, e, Nat.mul_div_cancel _ (Nat.two_pow_pos _)]
      refine ⟨rfl, Nat.div_mul_le_self _ _, ?_⟩
      have := Nat.div_add_mod t (2 ^ (8 * (szC t - 3)))
      have h2 := Nat.mod_lt t (Nat.two_pow_pos (8 * (szC t - 3)))
      rw [Nat.mul_comm] at this
      omega
  obtain ⟨m1, m2, m3⟩ := main
  have big : ∀ {s j : Nat}, 2 ^ j ≤ manS x s → 2 ^ j * 2 ^ (8 * s) ≤ x * 2 ^ 24 := fun {s j} h => by
    unfold manS at h
    exact (Nat.le_div_iff_mul_le (Nat.two_pow_pos _)).1 h
  have hmt : 2 ^ 16 ≤ mantV t := by
    rw [mantV_eq]
    unfold manS
    rw [Nat.le_div_iff_mul_le (Nat.two_pow_pos _)]
    calc 2 ^ 16 * 2 ^ (8 * bsz t) = 2 ^ (8 * (bsz t - 1)) * 2 ^ 24 := by rw [← Nat.pow_add, ← Nat.pow_add]; congr 1; omega
      _ ≤ _ := Nat.mul_le_mul_right _ hlow
  have hsz : isSz x (bsz t) := by
    refine ⟨Nat.lt_of_le_of_lt m2 hb.1, .inr ?_⟩
    refine Nat.le_of_mul_le_mul_right ?_ (Nat.two_pow_pos 24)
    by_cases q : 8388608 ≤ mantV t
    · have es : szC t = bsz t + 1 := if_pos q
      rw [es, manS_succ (a := t), ← mantV_eq] at m1
      have := big (s := bsz t + 1) (j := 15) (by rw [m1]; omega)
      refine Nat.le_trans ?_ this
      rw [← Nat.pow_add, ← Nat.pow_add]
      exact Nat.pow_le_pow_right (by decide) (by omega)
    · have es : szC t = bsz t := if_neg q
      rw [es, ← mantV_eq (a := t)] at m1
      have := big (s := bsz t) (j := 16) (by rw [m1]; exact hmt)
      refine Nat.le_trans ?_ this
      rw [← Nat.pow_add, ← Nat.pow_add]
      exact Nat.pow_le_pow_right (by decide) (by omega)
  have hbx : bsz x = bsz t := hsz.eq.symm
  have hx0 : x ≠ 0 := by
    intro q
    have := hsz.2.resolve_left (by omega)
    have h2 := Nat.two_pow_pos (8 * (bsz t - 1))
    omega
  have hC : szC x = szC t := by
    by_cases q : 8388608 ≤ mantV t
    · have es : szC t = bsz t + 1 := if_pos q
      rw [es, manS_succ, manS_succ (a := t), ← mantV_eq (a := t), ← hbx, ← mantV_eq (a := x)] at m1
      unfold szC
      rw [if_pos q, if_pos (by omega), hbx]
    · have es : szC t = bsz t := if_neg q
      rw [es, ← mantV_eq (a := t), ← hbx, ← mantV_eq (a := x)] at m1
      unfold szC
      rw [if_neg q, if_neg (by omega), hbx]
  have hcx : compV x = compV t := by
    rw [(compV_eq x).1, hC, m1, ← c1]
  exact ⟨x, expV_x ex (Nat.lt_of_le_of_lt m2 ht) hx0 hcx, hcx, m2, m3⟩
/- How near a form is: the statement. -/
def cmpW (a b : Nat) : Int := if a = b then 0 else if a < b then -1 else 1
theorem cmpW_gt (a b : Nat) : decide (0 < cmpW a b) = decide (b < a) := by
  unfold cmpW
  by_cases q : a = b
  · rw [if_pos q, decide_eq_false (by decide), decide_eq_false (by omega)]
  · rw [if_neg q]
    by_cases q2 : a < b
    · rw [if_pos q2, decide_eq_false (by decide), decide_eq_false (by omega)]
    · rw [if_neg q2, decide_eq_true (by decide), decide_eq_true (by omega)]
theorem cmpW_ge (a b : Nat) : decide (0 ≤ cmpW a b) = decide (b ≤ a) := by
  unfold cmpW
  by_cases q : a = b
  · rw [if_pos q, decide_eq_true (by decide), decide_eq_true (by omega)]
  · rw [if_neg q]
    by_cases q2 : a < b
    · rw [if_pos q2, decide_eq_false (by decide), decide_eq_false (by omega)]
    · rw [if_neg q2, decide_eq_true (by decide), decide_eq_true (by omega)]
theorem f17c (a b : Nat) (h : Hp) (n : Nat) (ha : a < b256) (hb : b < b256) (hf : Free h n) : Wp (callI env (evalW env) 17 [W a, W b]) h n fun v' h' n' => v' = .int .i64 (cmpW a b) ∧ Old h h' n := f17 a b h n ha hb hf
/- Scaled targets: the statement. -/
def noSc (t by_ of most : Nat) : Prop := t = 0 ∨ most = 0 ∨ okB by_ = false ∨ okB of = false
instance (t by_ of most : Nat) : Decidable (noSc t by_ of most) := by unfold noSc; exact inferInstance
def scS (t by_ of most : Nat) : Nat := if most < t * by_ / of then most else if t * by_ / of = 0 then 1 else t * by_ / of
theorem sc_some {t by_ of most : Nat} (h : ¬ noSc t by_ of most) : scaleQ t by_ of most = scS t by_ of most ∧ scaleE t by_ of most = 0 := by
  have : scaleV t by_ of most = some (scS t by_ of most) := if_neg h
  unfold scaleQ scaleE
  rw [this]; exact ⟨rfl, rfl⟩
theorem scS_facts {t by_ of most : Nat} (h0 : t ≠ 0) (hm : most ≠ 0) (ho : 1 ≤ of) : scS t by_ of most ≤ most ∧ scS t by_ of most ≠ 0 ∧ (of ≤ by_ → min t most ≤ scS t by_ of most) ∧ (by_ ≤ of → scS t by_ of most ≤ min t most) := by
  have h1 : of ≤ by_ → t ≤ t * by_ / of := fun h => by
    rw [Nat.le_div_iff_mul_le (by omega)]
    exact Nat.mul_le_mul_left _ h
  have h2 : by_ ≤ of → t * by_ / of ≤ t := fun h => by
    refine Nat.div_le_of_le_mul ?_
    rw [Nat.mul_comm]
    exact Nat.mul_le_mul_right _ h
  unfold scS
  generalize t * by_ / of = q at *
  by_cases a : most < q
  · rw [if_pos a]
    refine ⟨Nat.le_refl _, hm, fun _ => by omega, fun h => by have := h2 h; omega⟩
  · rw [if_neg a]
    by_cases b : q = 0
    · rw [if_pos b]
      refine ⟨by omega, by omega, fun h => by have := h1 h; omega, fun h => by omega⟩
    · rw [if_neg b]
      refine ⟨by omega, b, fun h => by have := h1 h; omega, fun h => by have := h2 h; omega⟩
theorem hb0 : build env 25 [] = M.pure (W 0) := rfl
/- Parameters: whether they may be; the program's and the document's. -/
theorem f59 (h : Hp) (n : Nat) (a b c : Int) : Wp (callI env (evalW env) 59 [.int .i64 a, .int .i64 b, .int .i64 c]) h n fun v' h' n' => v' = .bool (decide (b ≤ a ∧ a ≤ c)) ∧ h' = h ∧ n' = n := by
  refine wp_callI ff59 fi59 ?_
  by_cases h1 : b ≤ a
  · by_cases h2 : a ≤ c
    · simp only [fu59, Try.f59, Option.getD_some, List.replicate, core1, fgr, execOp, opd, ofValue, putT, put, nth, forgetL, bor, binInt, shiftB, intOp, doPick, branch, ended, resultOf, oneOrTup, List.getElem?_cons_succ, List.getElem?_cons_zero, List.cons_append, List.nil_append, List.length_cons, List.length_nil, Nat.reduceAdd, Nat.reduceSub, ge_iff_le, decide_true, and_self, Nat.zero_add, wp_pure, h1, h2]
    · simp only [fu59, Try.f59, Option.getD_some, List.replicate, core1, fgr, execOp, opd, ofValue, putT, put, nth, forgetL, bor, binInt, shiftB, intOp, doPick, branch, ended, resultOf, oneOrTup, List.getElem?_cons_succ, List.getElem?_cons_zero, List.cons_append, List.nil_append, List.length_cons, List.length_nil, Nat.reduceAdd, Nat.reduceSub, ge_iff_le, decide_true, decide_false, true_and, and_self, Nat.zero_add, wp_pure, h1, h2]
  · simp only [fu59, Try.f59, Option.getD_some, List.replicate, core1, fgr, execOp, opd, ofValue, putT, put, nth, forgetL, bor, binInt, shiftB, intOp, doPick, branch, ended, resultOf, oneOrTup, List.getElem?_cons_succ, List.getElem?_cons_zero, List.cons_append, List.nil_append, List.length_cons, List.length_nil, Nat.reduceAdd, Nat.reduceSub, ge_iff_le, decide_true, decide_false, and_self, Nat.zero_add, wp_pure, h1, false_and]
def c59 (h : Hp) (n : Nat) (a b c : Int) := opv_det (f59 h n a b c)
structure Pa where
  L : Nat
  e : Int
  s : Int
  su : Int
  ha : Int
  ma : Int
  de : Int
  ex : Int
  ti : Nat
def Pa.cells (p : Pa) : List AVal := [.int .u32 (p.L : Nat), .int .i64 p.e, .int .i64 p.s, .int .i64 p.su, .int .i64 p.ha, .int .i64 p.ma, .int .i64 p.de, .int .i64 p.ex, .int .u32 (p.ti : Nat)]
structure Pa.ok (p : Pa) : Prop where
  hL : expE p.L = 0
  e1 : 2 ≤ p.e ∧ p.e ≤ 2016
  s1 : ¬ p.s < 1
  s2 : ¬ 2147483647 < p.s
  h1 : 1 ≤ p.ha ∧ p.ha ≤ 2147483647
  m1 : 1 ≤ p.ma ∧ p.ma ≤ 10000
  d1 : 1 ≤ p.de ∧ p.de ≤ 20
  x1 : 0 ≤ p.ex ∧ p.ex ≤ 50
  u1 : ¬ p.su < 0
  u2 : p.su * p.ha ≤ 1050000000000000
theorem div_gt {M a b : Int} (hM : 0 ≤ M) (hb : 1 ≤ b) : M.tdiv b < a ↔ M < a * b := by
  rw [Int.tdiv_eq_ediv_of_nonneg hM, Int.ediv_lt_iff_lt_mul (by omega)]
def okC (p : Pa) (r : Int) : Prop := (p.ok ∧ r = 0) ∨ (¬ p.ok ∧ r = 230)
theorem ld9 {h : Hp} {n id : Nat} {p : Pa} (hh : h id = some (.row (.l p.cells) 60)) {k : Nat} {t : TypeId} {i : TI} {x : AVal} (hx : p.cells[k]? = some x) (hi : ti env t = M.pure i) (ha : aggB i.desc = false) : Rd (load env t (.ptr id k)) h n [id] x := cell_rd hh hx hi ha
set_option maxHeartbeats 8000000 in
theorem f30 (p : Pa) (h : Hp) (n : Nat) (lL : p.L < 4294967296) (hf : Free h n) : Wp (callI env (evalW env) 30 [.agg p.cells]) h n fun v' h' n' => (∃ r, v' = .int .i64 r ∧ okC p r) ∧ Old h h' n := by
  refine wp_callI ff30 fi30 ?_
  have k1 : ∀ j : Nat, j = n → (upd h n (some (Blk.row (Cont.l p.cells) 60))) j = some (Blk.row (Cont.l p.cells) 60) := fun j hj => by rw [hj]; exact upd_same _ _ _
  have k1 := k1 n rfl
  have oh : Old h (upd h n (some (Blk.row (Cont.l p.cells) 60))) n := fun j hj => upd_ne _ _ (by omega)
  have f1 : Free (upd h n (some (Blk.row (Cont.l p.cells) 60))) (n + 1) := hf.new
  simp only [fu30, Try.f30, Option.getD_some, List.replicate, core1, tyr, fgr, execOp, opd, ofValue, putT, put, nth, forgetL, und, sizeOf, cel, alloc, newRow, getO, ended, resultOf, oneOrTup, moved, fieldAddr, List.getElem?_cons_zero, List.append_eq, List.cons_append, List.nil_append, List.length_cons, List.length_nil, Nat.reduceSub, Nat.zero_add, wp_pure]
  generalize upd h n (some (Blk.row (Cont.l p.cells) 60)) = h0 at *
  rw [opv_rd (ld9 k1 rfl ti35 rfl)]
  simp only [core1, hkr, execOp, opd, opds, putT, put, nth, doCall, callV_func, List.nil_append, List.append_nil]
  refine opv_callf f1 (f16 p.L _ _ lL f1) fun v2 h2 n2 hn2 f2 ⟨e2, o2⟩ => ?_
  subst e2
  rw [expA_eq]
  have k1 := (o2 n (by omega)).trans k1
  simp only [core1, tyr, execOp, opd, putT, put, nth, zeroOf, cel, alloc, doAlloc, newRow, extract, getO, List.getElem?_cons_succ, List.getElem?_cons_zero, W]
  refine opv_all4 (arr_0 (upd_same _ _ _)) ti25 rfl fun b4 k4 => ?_
  have k4 := pick_wd k4
  have s4 : ∀ j, j < n2 → (upd (upd h2 n2 (some (Blk.row (Cont.l [AVal.int IntKind.u64 0, AVal.int IntKind.u64 0, AVal.int IntKind.u64 0, AVal.int IntKind.u64 0]) 25))) n2 (some b4)) j = h2 j := fun j hj => by rw [upd_ne _ _ (by omega), upd_ne _ _ (by omega)]
  have f4 : Free (upd (upd h2 n2 (some (Blk.row (Cont.l [AVal.int IntKind.u64 0, AVal.int IntKind.u64 0, AVal.int IntKind.u64 0, AVal.int IntKind.u64 0]) 25))) n2 (some b4)) (n2 + 1) := f2.new.upd (by omega)
  generalize (upd (upd h2 n2 (some (Blk.row (Cont.l [AVal.int IntKind.u64 0, AVal.int IntKind.u64 0, AVal.int IntKind.u64 0, AVal.int IntKind.u64 0]) 25))) n2 (some b4)) = H4 at *
  have k1 := (s4 n (by omega)).trans k1
  have oh : Old h H4 n := fun j hj => by rw [s4 j (by omega), o2 j (by omega)]; exact oh j hj
  by_cases c0 : expE p.L = 0
  case neg =>
    simp only [core1, fgr, execOp, opd, ofValue, putT, put, nth, forgetL, bor, binInt, shiftB, intOp, doPick, branch, List.getElem?_cons_succ, List.getElem?_cons_zero, int_bne, not_false_eq_true, decide_true, true_and, c0]
    exact ⟨⟨_, rfl, .inr ⟨fun q => c0 q.hL, rfl⟩⟩, oh⟩
  simp only [core1, tyr, fgr, execOp, opd, ofValue, putT, put, nth, forgetL, und, sizeOf, bor, binInt, shiftB, intOp, getO, moved, fieldAddr, List.getElem?_cons_succ, List.getElem?_cons_zero, decide_true, Nat.zero_add, bne_self_eq_false, c0]
  rw [opv_rd (ld9 k1 rfl ti3 rfl)]
  simp only [core1, hkr, execOp, opd, opds, ofValue, putT, put, nth, doCall, callV_func, unOp, doPick, branch, List.getElem?_cons_succ, List.getElem?_cons_zero, List.nil_append, List.append_nil, c59]
  by_cases c1 : 2 ≤ p.e ∧ p.e ≤ 2016
  case neg =>
    simp only [core1, fgr, execOp, opd, ofValue, putT, put, nth, forgetL, doPick, branch, List.getElem?_cons_succ, List.getElem?_cons_zero, decide_false, Bool.not_false, true_and, c1]
    exact ⟨⟨_, rfl, .inr ⟨fun q => c1 q.e1, rfl⟩⟩, oh⟩
  simp only [core1, tyr, execOp, opd, putT, put, nth, und, sizeOf, getO, moved, fieldAddr, List.getElem?_cons_succ, List.getElem?_cons_zero, decide_true, Bool.not_true, and_self, Nat.zero_add, c1]
  rw [opv_rd (ld9 k1 rfl ti2 rfl)]
  simp only [core1, execOp, opd, ofValue, putT, put, nth, bor, binInt, shiftB, intOp, doPick, branch, List.getElem?_cons_succ, List.getElem?_cons_zero, decide_true]
  by_cases c2 : p.s < 1
  case pos =>
    simp only [core1, fgr, execOp, opd, ofValue, putT, put, nth, forgetL, doPick, branch, List.getElem?_cons_succ, List.getElem?_cons_zero, decide_true, true_and, c2]
    exact ⟨⟨_, rfl, .inr ⟨fun q => q.s1 c2, rfl⟩⟩, oh⟩
  simp only [core1, tyr, execOp, opd, putT, put, nth, und, sizeOf, getO, moved, fieldAddr, List.getElem?_cons_succ, List.getElem?_cons_zero, decide_false, Nat.zero_add, c2]
  rw [opv_rd (ld9 k1 rfl ti2 rfl)]
  simp only [core1, execOp, opd, ofValue, putT, put, nth, bor, binInt, shiftB, intOp, doPick, branch, List.getElem?_cons_succ, List.getElem?_cons_zero, gt_iff_lt, decide_true]
  by_cases c3 : 2147483647 < p.s
  case pos =>
    simp only [core1, fgr, execOp, opd, ofValue, putT, put, nth, forgetL, doPick, branch, List.getElem?_cons_succ, List.getElem?_cons_zero, decide_true, true_and, c3]
    exact ⟨⟨_, rfl, .inr ⟨fun q => q.s2 c3, rfl⟩⟩, oh⟩
  simp only [core1, tyr, execOp, opd, putT, put, nth, und, sizeOf, getO, moved, fieldAddr, List.getElem?_cons_succ, List.getElem?_cons_zero, decide_false, Nat.zero_add, c3]
  rw [opv_rd (ld9 k1 rfl ti3 rfl)]
  simp only [core1, hkr, execOp, opd, opds, ofValue, putT, put, nth, doCall, callV_func, unOp, doPick, branch, List.getElem?_cons_succ, List.getElem?_cons_zero, List.nil_append, List.append_nil, c59]
  by_cases c4 : 1 ≤ p.ha ∧ p.ha ≤ 2147483647
  case neg =>
    simp only [core1, fgr, execOp, opd, ofValue, putT, put, nth, forgetL, doPick, branch, List.getElem?_cons_succ, List.getElem?_cons_zero, decide_false, Bool.not_false, true_and, c4]
    exact ⟨⟨_, rfl, .inr ⟨fun q => c4 q.h1, rfl⟩⟩, oh⟩
  simp only [core1, tyr, execOp, opd, putT, put, nth, und, sizeOf, getO, moved, fieldAddr, List.getElem?_cons_succ, List.getElem?_cons_zero, decide_true, Bool.not_true, and_self, Nat.zero_add, c4]
  rw [opv_rd (ld9 k1 rfl ti3 rfl)]
  simp only [core1, hkr, execOp, opd, opds, ofValue, putT, put, nth, doCall, callV_func, unOp, doPick, branch, List.getElem?_cons_succ, List.getElem?_cons_zero, List.nil_append, List.append_nil, c59]
  by_cases c5 : 1 ≤ p.ma ∧ p.ma ≤ 10000
  case neg =>
    simp only [core1, fgr, execOp, opd, ofValue, putT, put, nth, forgetL, doPick, branch, List.getElem?_cons_succ, List.getElem?_cons_zero, decide_false, Bool.not_false, true_and, c5]
    exact ⟨⟨_, rfl, .inr ⟨fun q => c5 q.m1, rfl⟩⟩, oh⟩
  simp only [core1, tyr, execOp, opd, putT, put, nth, und, sizeOf, getO, moved, fieldAddr, List.getElem?_cons_succ, List.getElem?_cons_zero, decide_true, Bool.not_true, and_self, Nat.zero_add, c5]
  rw [opv_rd (ld9 k1 rfl ti3 rfl)]
  simp only [core1, hkr, execOp, opd, opds, ofValue, putT, put, nth, doCall, callV_func, unOp, doPick, branch, List.getElem?_cons_succ, List.getElem?_cons_zero, List.nil_append, List.append_nil, c59]
  by_cases c6 : 1 ≤ p.de ∧ p.de ≤ 20
  case neg =>
    simp only [core1, fgr, execOp, opd, ofValue, putT, put, nth, forgetL, doPick, branch, List.getElem?_cons_succ, List.getElem?_cons_zero, decide_false, Bool.not_false, true_and, c6]
    exact ⟨⟨_, rfl, .inr ⟨fun q => c6 q.d1, rfl⟩⟩, oh⟩
  simp only [core1, tyr, execOp, opd, putT, put, nth, und, sizeOf, getO, moved, fieldAddr, List.getElem?_cons_succ, List.getElem?_cons_zero, decide_true, Bool.not_true, and_self, Nat.zero_add, c6]
  rw [opv_rd (ld9 k1 rfl ti3 rfl)]
  simp only [core1, fgr, hkr, execOp, opd, opds, ofValue, putT, put, nth, forgetL, doCall, callV_func, unOp, doPick, branch, List.getElem?_cons_succ, List.getElem?_cons_zero, List.nil_append, List.append_nil, c59]
  by_cases c7 : 0 ≤ p.ex ∧ p.ex ≤ 50
  case neg =>
    simp only [core1, fgr, execOp, opd, ofValue, putT, put, nth, forgetL, decide_false, Bool.not_false, true_and, c7]
    exact ⟨⟨_, rfl, .inr ⟨fun q => c7 q.x1, rfl⟩⟩, oh⟩
  simp only [core1, decide_true, Bool.not_true, and_self, c7]
  have ha0 : ¬ p.ha = 0 := by omega
  have q0 : 0 ≤ Int.tdiv 1050000000000000 p.ha := Int.tdiv_nonneg (by decide) (by omega)
  have q1 : Int.tdiv 1050000000000000 p.ha ≤ 1050000000000000 := by
    rw [Int.tdiv_eq_ediv_of_nonneg (by decide)]
    exact Int.ediv_le_self _ (by decide)
  have qw : IntKind.i64.wrap (Int.tdiv 1050000000000000 p.ha) = Int.tdiv 1050000000000000 p.ha := w64 (by omega) (by omega)
  have qg := div_gt (M := 1050000000000000) (a := p.su) (b := p.ha) (by decide) c4.1
  refine run_draw.2 ⟨rfl, ?_⟩
  simp only [fe_cons, fev_pure, core1, tyr, execOp, opd, putT, put, nth, und, sizeOf, getO, moved, fieldAddr, List.getElem?_cons_succ, List.getElem?_cons_zero, Nat.zero_add]
  rw [fev_rd (ld9 k1 rfl ti2 rfl)]
  by_cases c8 : p.su < 0
  case pos =>
    simp only [fe_nil, fe_cons, fe_guard, fego_some, feg_bool, feg_ft, fev_ask, fev_pure, core1, fgr, execOp, opd, ofValue, putT, put, nth, forgetL, bor, binInt, shiftB, intOp, doPick, branch, List.getElem?_cons_succ, List.getElem?_cons_zero, Nat.reduceAdd, decide_true, true_and, c8]
    refine ⟨(by (try simp (disch := omega) only [fine, List.all_cons, List.all_nil, clash_pr, clash_rr, Bool.not_false, Bool.true_or, Bool.and_true]); repeat' (first | rfl | exact (Bool.or_eq_true _ _).mpr (.inr rfl) | refine (Bool.and_eq_true _ _).mpr ⟨?_, ?_⟩)), ?_⟩
    exact ⟨⟨_, rfl, .inr ⟨fun q => q.u1 c8, rfl⟩⟩, oh⟩
  simp only [fe_cons, fe_guard, fego_some, feg_bool, feg_ff, fev_pure, core1, tyr, execOp, opd, ofValue, putT, put, nth, und, sizeOf, bor, binInt, shiftB, intOp, getO, moved, fieldAddr, List.getElem?_cons_succ, List.getElem?_cons_zero, Nat.reduceAdd, decide_true, decide_false, Nat.zero_add, c8]
  rw [fev_rd (ld9 k1 rfl ti2 rfl)]
  simp only [fe_guard, fego_some, feg_bool, feg_ff, fev_pure, core1, tyr, execOp, opd, putT, put, nth, und, sizeOf, getO, moved, fieldAddr, List.getElem?_cons_succ, List.getElem?_cons_zero, Nat.reduceAdd, Nat.zero_add]
  rw [fev_rd (ld9 k1 rfl ti3 rfl)]
  by_cases c9 : p.su * p.ha ≤ 1050000000000000
  · have c9' : ¬ Int.tdiv 1050000000000000 p.ha < p.su := by rw [qg]; omega
    simp only [fe_nil, fe_cons, fe_guard, fego_some, feg_bool, feg_ff, fev_ask, fev_ob, fev_pure, core1, fgr, execOp, opd, ofValue, putT, put, nth, forgetL, bor, binInt, shiftB, intOp, wrapI, doPick, branch, List.getElem?_cons_succ, List.getElem?_cons_zero, Nat.reduceAdd, gt_iff_lt, decide_not, decide_true, decide_false, Bool.not_false, true_and, ha0, qw, c9']
    refine ⟨(by (try simp (disch := omega) only [fine, List.all_cons, List.all_nil, clash_pr, clash_rr, Bool.not_false, Bool.true_or, Bool.and_true]); repeat' (first | rfl | exact (Bool.or_eq_true _ _).mpr (.inr rfl) | refine (Bool.and_eq_true _ _).mpr ⟨?_, ?_⟩)), ?_⟩
    exact ⟨⟨_, rfl, .inl ⟨⟨c0, c1, c2, c3, c4, c5, c6, c7, c8, c9⟩, rfl⟩⟩, oh⟩
  · have c9' : Int.tdiv 1050000000000000 p.ha < p.su := by rw [qg]; omega
    simp only [fe_nil, fe_cons, fe_guard, fego_some, feg_bool, feg_ff, fev_ask, fev_ob, fev_pure, core1, fgr, execOp, opd, ofValue, putT, put, nth, forgetL, bor, binInt, shiftB, intOp, wrapI, doPick, branch, List.getElem?_cons_succ, List.getElem?_cons_zero, Nat.reduceAdd, gt_iff_lt, decide_not, decide_true, decide_false, Bool.not_false, true_and, ha0, qw, c9']
    refine ⟨(by (try simp (disch := omega) only [fine, List.all_cons, List.all_nil, clash_pr, clash_rr, Bool.not_false, Bool.true_or, Bool.and_true]); repeat' (first | rfl | exact (Bool.or_eq_true _ _).mpr (.inr rfl) | refine (Bool.and_eq_true _ _).mpr ⟨?_, ?_⟩)), ?_⟩
    exact ⟨⟨_, rfl, .inr ⟨fun q => c9 q.u2, rfl⟩⟩, oh⟩
end Go.Am.Ytmlagocbphoedaa
