/- The functions that the statement reaches, gone through. -/
import Derived.Test.YtmlagocbphoedaaTgFoC
set_option linter.unusedSimpArgs false
set_option linter.unusedVariables false
set_option linter.defProp false
set_option maxRecDepth 10000
namespace Go.Am.Ytmlagocbphoedaa
open Go Go.Am Go.Proofs
/- What a compact form stands for: the document's. -/
theorem loop21a (Q : Post0) (ks : List Kf) (h : Hp) (n : Nat) (p0 p2 p3 : AVal) (S M : Nat)
    (hq : ∀ (x6 x7 x8 x9 x16 x26 x31 x46 : AVal), Kont env 21 none Q ks (.exit 0) (p0 :: AVal.junk :: p2 :: p3 :: .int .i64 (S : Nat) :: .int .u32 (M : Nat) :: x6 :: x7 :: x8 :: x9 :: AVal.junk :: AVal.junk :: AVal.junk :: AVal.junk :: AVal.junk :: AVal.junk :: x16 :: AVal.junk :: AVal.junk :: AVal.junk :: AVal.junk :: AVal.junk :: AVal.junk :: AVal.junk :: AVal.junk :: AVal.junk :: x26 :: AVal.junk :: AVal.junk :: AVal.junk :: AVal.junk :: x31 :: AVal.junk :: AVal.junk :: AVal.junk :: AVal.junk :: AVal.junk :: AVal.junk :: AVal.junk :: AVal.junk :: AVal.junk :: AVal.junk :: AVal.junk :: AVal.junk :: AVal.junk :: AVal.junk :: x46 :: AVal.junk :: AVal.junk :: []) h n) :
    ∀ (k s m : Nat) (x6 x7 x8 x9 x16 x26 x31 x46 : AVal), S = s + k → (k = 0 ∨ S = 3) → 3 ≤ S → M = m / 2 ^ (8 * k) → S < 256 → m < 8388608 →
    Run env 21 none Q (.loop lp21_0) ks (p0 :: AVal.junk :: p2 :: p3 :: .int .i64 (s : Nat) :: .int .u32 (m : Nat) :: x6 :: x7 :: x8 :: x9 :: AVal.junk :: AVal.junk :: AVal.junk :: AVal.junk :: AVal.junk :: AVal.junk :: x16 :: AVal.junk :: AVal.junk :: AVal.junk :: AVal.junk :: AVal.junk :: AVal.junk :: AVal.junk :: AVal.junk :: AVal.junk :: x26 :: AVal.junk :: AVal.junk :: AVal.junk :: AVal.junk :: x31 :: AVal.junk :: AVal.junk :: AVal.junk :: AVal.junk :: AVal.junk :: AVal.junk :: AVal.junk :: AVal.junk :: AVal.junk :: AVal.junk :: AVal.junk :: AVal.junk :: AVal.junk :: AVal.junk :: x46 :: AVal.junk :: AVal.junk :: []) h n := by
  intro k
  induction k with
  | zero =>
    intro s m x6 x7 x8 x9 x16 x26 x31 x46 hS hk h3 hM hl hm
    have hc : ¬ ((s : Nat) : Int) < 3 := by omega
    rw [Nat.mul_zero, Nat.pow_zero, Nat.div_one] at hM
    subst hM
    have : s = S := by omega
    subst this
    rw [run_loop]
    simp only [lp21_0, loopsOf, Try.f21, Option.getD_some, core1, fgr, execOp, opd, ofValue, putT, put, nth, forgetL, bor, binInt, shiftB, intOp, List.cons_append, List.nil_append, List.append_nil, decide_true, decide_false, List.getD_cons_zero, hc]
    exact hq _ _ _ _ _ _ _ _
  | succ k ih =>
    intro s m x6 x7 x8 x9 x16 x26 x31 x46 hS hk h3 hM hl hm
    have hc : ((s : Nat) : Int) < 3 := by omega
    have hw : IntKind.i64.wrap (((s : Nat) : Int) + 1) = ((s + 1 : Nat) : Int) := by rw [w64 (by omega) (by omega)]; omega
    have dv : IntKind.u32.wrap (Int.tdiv ((m : Nat) : Int) 256) = ((m / 256 : Nat) : Int) := by rw [Int.tdiv_eq_ediv_of_nonneg (by omega), wu32 (by omega) (by omega)]; omega
    rw [run_loop]
    simp only [lp21_0, loopsOf, Try.f21, Option.getD_some, core1, fgr, execOp, opd, ofValue, putT, put, nth, forgetL, bor, binInt, shiftB, intOp, wrapI, List.cons_append, List.nil_append, List.append_nil, Int.reduceNe, decide_true, true_and, List.getD_cons_zero, hc, hw, dv]
    refine ih (s + 1) (m / 256) _ _ _ _ _ _ _ _ (by omega) (by omega) h3 ?_ hl (by omega)
    rw [hM, show 8 * (k + 1) = 8 + 8 * k by omega, Nat.pow_add, ← Nat.div_div_eq_div_mul]
theorem len_248 {x L : Nat} (hl : isLen x L) : 248 < L ↔ 2 ^ 248 ≤ x := by
  constructor
  · intro h
    rcases hl.2 with q | q
    · omega
    · exact Nat.le_trans (Nat.pow_le_pow_right (by decide) (by omega)) q
  · intro h
    by_cases q : 248 < L
    · exact q
    · have : 2 ^ L ≤ 2 ^ 248 := Nat.pow_le_pow_right (by decide) (by omega)
      have := hl.1
      omega
theorem up_248 {x : Nat} : 2 ^ 248 ≤ x ↔ b256 ≤ x * 256 := by
  rw [p256, show (2 : Nat) ^ 256 = 2 ^ 248 * 256 by rw [show (256 : Nat) = 2 ^ 8 from rfl, ← Nat.pow_add]]
  omega
set_option maxHeartbeats 1000000 in
theorem loop21b (Q : Post0) (ks : List Kf) (p0 : AVal) (N m S i2 i6 : Nat) (d : i2 ≠ i6) (hN : N ≤ i2 ∧ N ≤ i6) (hS : S < 256) (h0 : Hp)
    (hE : ∀ (h : Hp) (n : Nat) (x5 x7 x8 x9 x16 x26 x31 x46 : AVal), m * 2 ^ (8 * (S - 3)) < b256 → Arr .u64 h i2 4 (fun _ => 0) → Arr .u64 h i6 4 (fun j => (wd (m * 2 ^ (8 * (S - 3))) j : Nat)) → i2 < n → i6 < n → Free h n → Old h0 h N → Kont env 21 none Q ks (.exit 2) (p0 :: AVal.junk :: .ptr i2 0 :: .int .i64 0 :: .int .i64 (S : Nat) :: x5 :: .ptr i6 0 :: x7 :: x8 :: x9 :: AVal.junk :: AVal.junk :: AVal.junk :: AVal.junk :: AVal.junk :: AVal.junk :: x16 :: AVal.junk :: AVal.junk :: AVal.junk :: AVal.junk :: AVal.junk :: AVal.junk :: AVal.junk :: AVal.junk :: AVal.junk :: x26 :: AVal.junk :: AVal.junk :: AVal.junk :: AVal.junk :: x31 :: AVal.junk :: AVal.junk :: AVal.junk :: AVal.junk :: AVal.junk :: AVal.junk :: AVal.junk :: AVal.junk :: AVal.junk :: AVal.junk :: AVal.junk :: AVal.junk :: AVal.junk :: AVal.junk :: x46 :: AVal.junk :: AVal.junk :: []) h n)
    (hR : ∀ (h : Hp) (n : Nat) (x4 x5 x6 x7 x8 x9 x16 x26 x31 x46 : AVal), b256 ≤ m * 2 ^ (8 * (S - 3)) → Arr .u64 h i2 4 (fun j => (wd 0 j : Nat)) → Old h0 h N → Kont env 21 none Q ks .ret (p0 :: AVal.junk :: .ptr i2 0 :: .int .i64 50 :: x4 :: x5 :: x6 :: x7 :: x8 :: x9 :: AVal.junk :: AVal.junk :: AVal.junk :: AVal.junk :: AVal.junk :: AVal.junk :: x16 :: AVal.junk :: AVal.junk :: AVal.junk :: AVal.junk :: AVal.junk :: AVal.junk :: AVal.junk :: AVal.junk :: AVal.junk :: x26 :: AVal.junk :: AVal.junk :: AVal.junk :: AVal.junk :: x31 :: AVal.junk :: AVal.junk :: AVal.junk :: AVal.junk :: AVal.junk :: AVal.junk :: AVal.junk :: AVal.junk :: AVal.junk :: AVal.junk :: AVal.junk :: AVal.junk :: AVal.junk :: AVal.junk :: x46 :: AVal.junk :: AVal.junk :: []) h n) :
    ∀ (k i x : Nat) (h : Hp) (n : Nat) (x5 x8 x9 x16 x26 x31 x46 : AVal), i + k = S → 3 ≤ i → x = m * 2 ^ (8 * (i - 3)) → x < b256 → Arr .u64 h i2 4 (fun _ => 0) → Arr .u64 h i6 4 (fun j => (wd x j : Nat)) → i2 < n → i6 < n → Free h n → Old h0 h N →
    Run env 21 none Q (.loop lp21_1) ks (p0 :: AVal.junk :: .ptr i2 0 :: .int .i64 0 :: .int .i64 (S : Nat) :: x5 :: .ptr i6 0 :: .int .i64 (i : Nat) :: x8 :: x9 :: AVal.junk :: AVal.junk :: AVal.junk :: AVal.junk :: AVal.junk :: AVal.junk :: x16 :: AVal.junk :: AVal.junk :: AVal.junk :: AVal.junk :: AVal.junk :: AVal.junk :: AVal.junk :: AVal.junk :: AVal.junk :: x26 :: AVal.junk :: AVal.junk :: AVal.junk :: AVal.junk :: x31 :: AVal.junk :: AVal.junk :: AVal.junk :: AVal.junk :: AVal.junk :: AVal.junk :: AVal.junk :: AVal.junk :: AVal.junk :: AVal.junk :: AVal.junk :: AVal.junk :: AVal.junk :: AVal.junk :: x46 :: AVal.junk :: AVal.junk :: []) h n := by
  intro k
  induction k with
  | zero =>
    intro i x h n x5 x8 x9 x16 x26 x31 x46 hi h3 hx hlt a2 a6 b2 b6 hf ho
    have : i = S := by omega
    subst this
    have hc : ¬ ((i : Nat) : Int) < ((i : Nat) : Int) := by omega
    subst hx
    rw [run_loop]
    simp only [lp21_1, loopsOf, Try.f21, Option.getD_some, core1, fgr, execOp, opd, putT, put, nth, forgetL, bor, binInt, shiftB, intOp, List.cons_append, List.nil_append, List.append_nil, decide_true, decide_false, List.getD_cons_zero, List.getD_cons_succ, hc]
    exact hE h n _ _ _ _ _ _ _ _ hlt a2 a6 b2 b6 hf ho
  | succ k ih =>
    intro i x h n x5 x8 x9 x16 x26 x31 x46 hi h3 hx hlt a2 a6 b2 b6 hf ho
    have hc : ((i : Nat) : Int) < ((S : Nat) : Int) := by omega
    have hw : IntKind.i64.wrap (((i : Nat) : Int) + 1) = ((i + 1 : Nat) : Int) := by rw [w64 (by omega) (by omega)]; omega
    have hx2 : x * 256 = m * 2 ^ (8 * (i + 1 - 3)) := by
      rw [hx, show 8 * (i + 1 - 3) = 8 * (i - 3) + 8 by omega, Nat.pow_add, Nat.mul_assoc]
    rw [run_loop]
    simp only [lp21_1, loopsOf, Try.f21, Option.getD_some, core1, fgr, execOp, opd, putT, put, nth, forgetL, bor, binInt, shiftB, intOp, List.cons_append, List.nil_append, List.append_nil, decide_true, List.getD_cons_zero, List.getD_cons_succ, hc]
    rw [opv_rd (a6.all ti25 rfl rfl), range4]
    simp only [core1, hkr, execOp, opd, opds, putT, put, nth, doCall, callV_func, List.nil_append, List.append_nil]
    refine opv_callf hf (f45 x _ _ hlt hf) fun v1 h1 n1 hn1 f1 ⟨⟨L, e1, hL, hl⟩, o1⟩ => ?_
    subst e1
    have a2 := a2.keep (o1 _ b2)
    have a6 := a6.keep (o1 _ b6)
    have ho := ho.trans o1 (by omega)
    by_cases c : 248 < L
    · have ci : (248 : Int) < ((L : Nat) : Int) := by omega
      have big := up_248.1 ((len_248 hl).1 c)
      simp (disch := omega) only [core1, tyr, fgr, execOp, opd, ofValue, ops2, putT, put, nth, forgetL, sizeOf, bor, binInt, shiftB, intOp, cel, getO, gt_iff_lt, decide_true, build, fill, ci]
      refine opv_all4 a2 ti25 rfl fun b9 k9 => ?_
      simp only [core1, fgr, execOp, opd, ofValue, putT, put, forgetL]
      refine hR _ _ _ _ _ _ _ _ _ _ _ _ ?_ (k9.ext fun j hj => ?_) (fun j hj => by rw [upd_ne _ _ (by omega)]; exact ho j hj)
      · rw [hx2] at big
        exact Nat.le_trans big (Nat.mul_le_mul_left _ (Nat.pow_le_pow_right (by decide) (by omega)))
      · match j, hj with
        | 0, _ => rfl
        | 1, _ => rfl
        | 2, _ => rfl
        | 3, _ => rfl
    · have ci : ¬ (248 : Int) < ((L : Nat) : Int) := by omega
      have small : x * 256 < b256 := by
        have := mt (fun q => (len_248 hl).2 (up_248.2 q)) c
        omega
      have hl8 : leftV x 8 = x * 256 := by
        unfold leftV
        rw [if_neg (by decide), show (8 : Int).toNat = 8 from rfl, show (2 : Nat) ^ 8 = 256 from rfl, Nat.mod_eq_of_lt small]
      simp only [core1, fgr, execOp, opd, ofValue, putT, put, nth, forgetL, bor, binInt, shiftB, intOp, gt_iff_lt, decide_true, decide_false, ci]
      rw [opv_rd (a6.all ti25 rfl rfl), range4]
      simp only [core1, hkr, execOp, opd, opds, ofValue, putT, put, nth, doCall, callV_func, List.nil_append, List.append_nil]
      refine opv_callf f1 (f46 x 8 _ _ hlt (by decide) f1) fun v2 h2 n2 hn2 f2 ⟨e2, o2⟩ => ?_
      subst e2
      rw [hl8]
      have a2 := a2.keep (o2 _ (by omega))
      have a6 := a6.keep (o2 _ (by omega))
      have ho := ho.trans o2 (by omega)
      simp only [core1, execOp, opd, putT, put, nth, W]
      refine opv_all4 a6 ti25 rfl fun b9 k9 => ?_
      have k9 := pick_wd k9
      simp only [core1, fgr, execOp, opd, ofValue, putT, put, nth, forgetL, bor, binInt, shiftB, intOp, wrapI, decide_true, hw]
      refine ih (i + 1) (x * 256) _ n2 _ _ _ _ _ _ _ (by omega) (by omega) hx2 small (a2.upd d) k9 (by omega) (by omega) (f2.upd (by omega)) (fun j hj => by rw [upd_ne _ _ (by omega)]; exact ho j hj)
theorem expX_eq (c : Nat) : expX c = c % 8388608 / 2 ^ (8 * (3 - c / 16777216)) * 2 ^ (8 * (max (c / 16777216) 3 - 3)) := by
  unfold expX
  by_cases q : c / 16777216 < 3
  · rw [if_pos q, show max (c / 16777216) 3 - 3 = 0 by omega, Nat.mul_zero, Nat.pow_zero, Nat.mul_one]
  · rw [if_neg q, show 3 - c / 16777216 = 0 by omega, show max (c / 16777216) 3 = c / 16777216 by omega, Nat.mul_zero, Nat.pow_zero, Nat.div_one]
set_option maxHeartbeats 4000000 in
theorem f21 (c : Nat) (h : Hp) (n : Nat) (hc : c < 4294967296) (hf : Free h n) : Wp (callI env (evalW env) 21 [.int .u32 (c : Nat)]) h n fun v' h' n' => v' = expA c ∧ Old h h' n := by
  refine wp_callI ff21 fi21 ?_
  have hS : c / 16777216 < 256 := by omega
  have hm : c % 8388608 < 8388608 := Nat.mod_lt _ (by decide)
  have dv : IntKind.u32.wrap (Int.tdiv ((c : Nat) : Int) 16777216) = ((c / 16777216 : Nat) : Int) := by rw [Int.tdiv_eq_ediv_of_nonneg (by omega), wu32 (by omega) (by omega)]; omega
  have md : Int.tmod ((c : Nat) : Int) 8388608 = ((c % 8388608 : Nat) : Int) := by rw [Int.tmod_eq_emod_of_nonneg (by omega)]; omega
  have cv1 : IntKind.i64.wrap ((c / 16777216 : Nat) : Int) = ((c / 16777216 : Nat) : Int) := w64 (by omega) (by omega)
  have mdw : IntKind.u32.wrap ((c % 8388608 : Nat) : Int) = ((c % 8388608 : Nat) : Int) := wu32 (by omega) (by omega)
  have hX := expX_eq c
  simp only [fu21, Try.f21, Option.getD_some, List.replicate, core1, tyr, fgr, execOp, opd, ofValue, putT, put, nth, forgetL, und, zeroOf, lenOf, bor, binInt, shiftB, intOp, wrapI, strK, intK, cel, alloc, doAlloc, newRow, ended, resultOf, oneOrTup, List.cons_append, List.nil_append, List.length_cons, List.length_nil, Nat.reduceSub, Int.reduceNe, decide_true, true_and, Nat.zero_add, convert, convStr, isU8, dv, md, cv1]
  obtain ⟨S, eS⟩ : ∃ S, S = max (c / 16777216) 3 := ⟨_, rfl⟩
  obtain ⟨M, eM⟩ : ∃ M, M = c % 8388608 / 2 ^ (8 * (3 - c / 16777216)) := ⟨_, rfl⟩
  rw [← eS, ← eM] at hX
  have hMl : M < 8388608 := by rw [eM]; exact Nat.lt_of_le_of_lt (Nat.div_le_self _ _) hm
  have cv2 : IntKind.u64.wrap ((M : Nat) : Int) = ((M : Nat) : Int) := wu64 (by omega) (by omega)
  have k2 : Arr .u64 (upd h n (some (Blk.row (Cont.l [AVal.int IntKind.u64 0, AVal.int IntKind.u64 0, AVal.int IntKind.u64 0, AVal.int IntKind.u64 0]) 25))) n 4 (fun _ => 0) := arr_0 (upd_same _ _ _)
  refine loop21a _ _ _ _ _ _ _ S M ?_ (3 - c / 16777216) (c / 16777216) (c % 8388608) _ _ _ _ _ _ _ _ (by omega) (by omega) (by omega) eM (by omega) hm
  intro x6 x7 x8 x9 x16 x26 x31 x46
  simp only [core1, tyr, hkr, execOp, opd, opds, putT, put, nth, doCall, callV_func, und, lenOf, wrapI, strK, intK, List.nil_append, List.append_nil, convert, convStr, isU8, cv2]
  refine opv_callf hf.new (f43 M _ _ (by omega)) fun v1 h1 n1 hn1 f1 ⟨e1, o1⟩ => ?_
  subst e1
  have k2 := k2.keep (o1 _ (by omega))
  have o1 : Old h h1 n := fun j hj => by rw [o1 j (by omega), upd_ne _ _ (by omega)]
  simp only [core1, tyr, execOp, opd, putT, put, nth, zeroOf, cel, alloc, doAlloc, newRow, W]
  refine opv_all4 (arr_0 (upd_same _ _ _)) ti25 rfl fun b6 k6 => ?_
  have k6 := pick_wd k6
  have s6 : ∀ j, j < n1 → (upd (upd h1 n1 (some (Blk.row (Cont.l [AVal.int IntKind.u64 0, AVal.int IntKind.u64 0, AVal.int IntKind.u64 0, AVal.int IntKind.u64 0]) 25))) n1 (some b6)) j = h1 j := fun j hj => by rw [upd_ne _ _ (by omega), upd_ne _ _ (by omega)]
  have f6 : Free (upd (upd h1 n1 (some (Blk.row (Cont.l [AVal.int IntKind.u64 0, AVal.int IntKind.u64 0, AVal.int IntKind.u64 0, AVal.int IntKind.u64 0]) 25))) n1 (some b6)) (n1 + 1) := f1.new.upd (by omega)
  generalize upd (upd h1 n1 (some (Blk.row (Cont.l [AVal.int IntKind.u64 0, AVal.int IntKind.u64 0, AVal.int IntKind.u64 0, AVal.int IntKind.u64 0]) 25))) n1 (some b6) = H6 at *
  have k2 := k2.keep (s6 _ (by omega))
  have o6 : Old h H6 n := fun j hj => by rw [s6 j (by omega)]; exact o1 j hj
  simp only [core1, fgr, execOp, opd, ofValue, putT, put, forgetL]
  refine loop21b _ _ _ n M S n n1 (by omega) (by omega) (by omega) h ?_ ?_ (S - 3) 3 M H6 (n1 + 1) _ _ _ _ _ _ _ (by omega) (by omega) (by simp) (by unfold b256; omega) k2 k6 (by omega) (by omega) f6 o6
  · intro h3 n3 x5 x7 x8 x9 x16 x26 x31 x46 hlt a2 a6 b2 b6 f3 o3
    rw [← hX] at hlt a6
    obtain ⟨x, ex⟩ : ∃ x, x = expX c := ⟨_, rfl⟩
    rw [← ex] at hlt a6
    simp only [core1, execOp, opd, nth]
    rw [opv_rd (a6.all ti25 rfl rfl), range4]
    simp only [core1, hkr, execOp, opd, opds, putT, put, nth, doCall, callV_func, List.nil_append, List.append_nil]
    refine opv_callf f3 (f22 x _ _ hlt f3) fun v9 h9 n9 hn9 f9 ⟨e9, o9⟩ => ?_
    subst e9
    have a6 := a6.keep (o9 _ (by omega))
    have a2 := a2.keep (o9 _ (by omega))
    have o9 : Old h h9 n := fun j hj => by rw [o9 j (by omega)]; exact o3 j hj
    by_cases x0 : x = 0
    · have e : expV c = none := expV_no fun l1 l2 _ => l2 (by rw [← ex]; exact x0)
      simp only [compA, if_pos x0]
      simp (disch := omega) only [core1, tyr, fgr, execOp, opd, ofValue, ops2, putT, put, nth, forgetL, sizeOf, bor, binInt, shiftB, intOp, doPick, branch, cel, extract, getO, List.getElem?_cons_succ, List.getElem?_cons_zero, int_bne, Int.reduceEq, not_false_eq_true, decide_true, build, fill]
      refine opv_all4 a2 ti25 rfl fun bb hbb => ?_
      simp only [core1, fgr, execOp, opd, ofValue, putT, put, nth, forgetL, true_and, wp_pure, wp_rd (hbb.all ti25 rfl rfl), range4, pick4]
      exact ⟨by rw [expA, e]; rfl, fun j hj => by rw [upd_ne _ _ (by omega)]; exact o9 j hj⟩
    simp only [compA, if_neg x0]
    by_cases ce : compV x = c
    · have e := expV_x ex hlt x0 ce
      simp only [core1, fgr, execOp, opd, ofValue, putT, put, nth, forgetL, bor, binInt, shiftB, intOp, doPick, branch, extract, getO, List.getElem?_cons_succ, List.getElem?_cons_zero, decide_true, bne_self_eq_false, ce]
      rw [opv_rd (a6.all ti25 rfl rfl), range4]
      simp only [core1, execOp, opd, putT, put, nth]
      refine opv_all4 a2 ti25 rfl fun bb hbb => ?_
      simp only [core1, fgr, execOp, opd, ofValue, putT, put, nth, forgetL, true_and, wp_pure, wp_rd (hbb.all ti25 rfl rfl), range4, pick4]
      exact ⟨by rw [expA, e]; rfl, fun j hj => by rw [upd_ne _ _ (by omega)]; exact o9 j hj⟩
    · have e : expV c = none := expV_no fun l1 l2 l3 => ce (by rw [ex]; exact l3)
      have cei : ¬ ((compV x : Nat) : Int) = ((c : Nat) : Int) := by omega
      simp (disch := omega) only [core1, tyr, fgr, execOp, opd, ofValue, ops2, putT, put, nth, forgetL, sizeOf, bor, binInt, shiftB, intOp, doPick, branch, cel, extract, getO, List.getElem?_cons_succ, List.getElem?_cons_zero, int_bne, not_false_eq_true, decide_true, bne_self_eq_false, build, fill, cei]
      refine opv_all4 a2 ti25 rfl fun bb hbb => ?_
      simp only [core1, fgr, execOp, opd, ofValue, putT, put, nth, forgetL, true_and, wp_pure, wp_rd (hbb.all ti25 rfl rfl), range4, pick4]
      exact ⟨by rw [expA, e]; rfl, fun j hj => by rw [upd_ne _ _ (by omega)]; exact o9 j hj⟩
  · intro h3 n3 x4 x5 x6 x7 x8 x9 x16 x26 x31 x46 hge a2 o3
    have e : expV c = none := expV_no fun l1 l2 _ => by omega
    simp only [core1, nth, true_and, wp_pure, wp_rd (a2.all ti25 rfl rfl), range4]
    exact ⟨by rw [expA, e]; rfl, o3⟩
/- The work of a target: the program's. -/
def workV (t : Nat) : Nat := b256 / (t + 1)
def workA (t : Nat) : AVal := if t = 0 then .tup [W 0, .int .i64 50] else .tup [W (workV t), .int .i64 0]
theorem workV_lt {t : Nat} (h : t ≠ 0) : workV t < b256 := Nat.div_lt_self (by decide) (by omega)
theorem workV_div {t : Nat} (h : t < b256) : (b256 - 1 - t) / (t + 1) + 1 = workV t := by
  unfold workV
  rw [← Nat.add_div_right _ (by omega : 0 < t + 1)]
  congr 1
  omega
set_option maxHeartbeats 4000000 in
theorem f23 (t : Nat) (h : Hp) (n : Nat) (ht : t < b256) (hf : Free h n) : Wp (callI env (evalW env) 23 [W t]) h n fun v' h' n' => v' = workA t ∧ Old h h' n := by
  refine wp_callI ff23 fi23 ?_
  have kb : Arr .u64 (upd (upd h n (some (Blk.row (Cont.l [AVal.int IntKind.u64 (wd t 0 : Nat), AVal.int IntKind.u64 (wd t 1 : Nat), AVal.int IntKind.u64 (wd t 2 : Nat), AVal.int IntKind.u64 (wd t 3 : Nat)]) 25))) (n + 1) (some (Blk.row (Cont.l [AVal.int IntKind.u64 0, AVal.int IntKind.u64 0, AVal.int IntKind.u64 0, AVal.int IntKind.u64 0]) 25))) n 4 (fun j => (wd t j : Nat)) := arr_W (by rw [upd_ne _ _ (by omega)]; exact upd_same _ _ _)
  have k2 : Arr .u64 (upd (upd h n (some (Blk.row (Cont.l [AVal.int IntKind.u64 (wd t 0 : Nat), AVal.int IntKind.u64 (wd t 1 : Nat), AVal.int IntKind.u64 (wd t 2 : Nat), AVal.int IntKind.u64 (wd t 3 : Nat)]) 25))) (n + 1) (some (Blk.row (Cont.l [AVal.int IntKind.u64 0, AVal.int IntKind.u64 0, AVal.int IntKind.u64 0, AVal.int IntKind.u64 0]) 25))) (n + 1) 4 (fun _ => 0) := arr_0 (upd_same _ _ _)
  simp only [fu23, Try.f23, Option.getD_some, List.replicate, core1, tyr, fgr, execOp, opd, ofValue, putT, put, nth, forgetL, zeroOf, cel, alloc, doAlloc, newRow, ended, resultOf, oneOrTup, List.cons_append, List.nil_append, List.length_cons, List.length_nil, Nat.reduceSub, Nat.zero_add, W]
  have oh : Old h (upd (upd h n (some (Blk.row (Cont.l [AVal.int IntKind.u64 (wd t 0 : Nat), AVal.int IntKind.u64 (wd t 1 : Nat), AVal.int IntKind.u64 (wd t 2 : Nat), AVal.int IntKind.u64 (wd t 3 : Nat)]) 25))) (n + 1) (some (Blk.row (Cont.l [AVal.int IntKind.u64 0, AVal.int IntKind.u64 0, AVal.int IntKind.u64 0, AVal.int IntKind.u64 0]) 25))) n := fun j hj => by rw [upd_ne _ _ (by omega), upd_ne _ _ (by omega)]
  have f0 := (hf.new (b := some (Blk.row (Cont.l [AVal.int IntKind.u64 (wd t 0 : Nat), AVal.int IntKind.u64 (wd t 1 : Nat), AVal.int IntKind.u64 (wd t 2 : Nat), AVal.int IntKind.u64 (wd t 3 : Nat)]) 25))).new (b := some (Blk.row (Cont.l [AVal.int IntKind.u64 0, AVal.int IntKind.u64 0, AVal.int IntKind.u64 0, AVal.int IntKind.u64 0]) 25))
  generalize upd (upd h n (some (Blk.row (Cont.l [AVal.int IntKind.u64 (wd t 0 : Nat), AVal.int IntKind.u64 (wd t 1 : Nat), AVal.int IntKind.u64 (wd t 2 : Nat), AVal.int IntKind.u64 (wd t 3 : Nat)]) 25))) (n + 1) (some (Blk.row (Cont.l [AVal.int IntKind.u64 0, AVal.int IntKind.u64 0, AVal.int IntKind.u64 0, AVal.int IntKind.u64 0]) 25)) = H0 at *
  rw [opv_rd (kb.all ti25 rfl rfl), range4]
  simp only [core1, hkr, execOp, opd, opds, putT, put, nth, doCall, callV_func, List.nil_append, List.append_nil]
  refine opv_callf f0 (f39 t _ _ ht) fun v1 h1 n1 hn1 f1 ⟨e1, o1⟩ => ?_
  subst e1
  have kb := kb.keep (o1 _ (by omega))
  have k2 := k2.keep (o1 _ (by omega))
  have oh : Old h h1 n := fun j hj => by rw [o1 j (by omega)]; exact oh j hj
  by_cases h0 : t = 0
  · simp (disch := omega) only [core1, tyr, fgr, execOp, opd, ops2, putT, put, nth, forgetL, sizeOf, cel, getO, decide_true, build, fill, h0]
    refine opv_all4 k2 ti25 rfl fun bb hbb => ?_
    simp only [core1, fgr, execOp, opd, ofValue, putT, put, nth, forgetL, true_and, wp_pure, wp_rd (hbb.all ti25 rfl rfl), range4, pick4]
    exact ⟨by rw [workA, if_pos rfl]; rfl, fun j hj => by rw [upd_ne _ _ (by omega)]; exact oh j hj⟩
  simp only [core1, fgr, hkr, execOp, opd, opds, ofValue, putT, put, nth, forgetL, doCall, callV_func, List.nil_append, List.append_nil, decide_false, h0]
  have hwA : workA t = .tup [W (workV t), .int .i64 0] := if_neg h0
  refine opv_callf f1 (f19 1 _ _ (by decide)) fun v2 h2 n2 hn2 f2 ⟨e2, o2⟩ => ?_
  subst e2
  simp only [core1, tyr, execOp, opd, putT, put, nth, zeroOf, cel, alloc, doAlloc, newRow, W]
  refine opv_all4 (arr_0 (upd_same _ _ _)) ti25 rfl fun b4 k4 => ?_
  have k4 := pick_wd k4
  have s4 : ∀ j, j < n2 → (upd (upd h2 n2 (some (Blk.row (Cont.l [AVal.int IntKind.u64 0, AVal.int IntKind.u64 0, AVal.int IntKind.u64 0, AVal.int IntKind.u64 0]) 25))) n2 (some b4)) j = h2 j := fun j hj => by rw [upd_ne _ _ (by omega), upd_ne _ _ (by omega)]
  have f4 : Free (upd (upd h2 n2 (some (Blk.row (Cont.l [AVal.int IntKind.u64 0, AVal.int IntKind.u64 0, AVal.int IntKind.u64 0, AVal.int IntKind.u64 0]) 25))) n2 (some b4)) (n2 + 1) := f2.new.upd (by omega)
  generalize upd (upd h2 n2 (some (Blk.row (Cont.l [AVal.int IntKind.u64 0, AVal.int IntKind.u64 0, AVal.int IntKind.u64 0, AVal.int IntKind.u64 0]) 25))) n2 (some b4) = H4 at *
  have kb := (kb.keep (o2 _ (by omega))).keep (s4 _ (by omega))
  have k2 := (k2.keep (o2 _ (by omega))).keep (s4 _ (by omega))
  have oh : Old h H4 n := fun j hj => by rw [s4 j (by omega), o2 j (by omega)]; exact oh j hj
  simp only [core1, fgr, execOp, opd, putT, nth, forgetL]
  rw [opv_rd (kb.all ti25 rfl rfl), range4]
  simp only [core1, execOp, opd, putT, put, nth]
  rw [opv_rd (k4.all ti25 rfl rfl), range4]
  simp only [core1, hkr, execOp, opd, opds, putT, put, nth, doCall, callV_func, List.nil_append, List.append_nil]
  refine opv_callf f4 (f27 t 1 _ _ ht (by decide) f4) fun v5 h5 n5 hn5 f5 ⟨e5, o5⟩ => ?_
  subst e5
  simp only [core1, tyr, execOp, opd, putT, put, nth, zeroOf, cel, alloc, doAlloc, newRow, extract, getO, List.getElem?_cons_succ, List.getElem?_cons_zero, W]
  refine opv_all4 (arr_0 (upd_same _ _ _)) ti25 rfl fun b5 k5 => ?_
  have k5 := pick_wd k5
  have s5 : ∀ j, j < n5 → (upd (upd h5 n5 (some (Blk.row (Cont.l [AVal.int IntKind.u64 0, AVal.int IntKind.u64 0, AVal.int IntKind.u64 0, AVal.int IntKind.u64 0]) 25))) n5 (some b5)) j = h5 j := fun j hj => by rw [upd_ne _ _ (by omega), upd_ne _ _ (by omega)]
  have f6 : Free (upd (upd h5 n5 (some (Blk.row (Cont.l [AVal.int IntKind.u64 0, AVal.int IntKind.u64 0, AVal.int IntKind.u64 0, AVal.int IntKind.u64 0]) 25))) n5 (some b5)) (n5 + 1) := f5.new.upd (by omega)
  generalize upd (upd h5 n5 (some (Blk.row (Cont.l [AVal.int IntKind.u64 0, AVal.int IntKind.u64 0, AVal.int IntKind.u64 0, AVal.int IntKind.u64 0]) 25))) n5 (some b5) = H5 at *
  have kb := (kb.keep (o5 _ (by omega))).keep (s5 _ (by omega))
  have k2 := (k2.keep (o5 _ (by omega))).keep (s5 _ (by omega))
  have k4 := (k4.keep (o5 _ (by omega))).keep (s5 _ (by omega))
  have oh : Old h H5 n := fun j hj => by rw [s5 j (by omega), o5 j (by omega)]; exact oh j hj
  by_cases c : b256 ≤ t + 1
  · have cd := decide_eq_true c
    have e : workV t = 1 := by unfold workV; rw [show t + 1 = b256 by omega]; decide
    simp only [core1, fgr, execOp, opd, putT, put, nth, forgetL, cd]
    rw [opv_rd (k4.all ti25 rfl rfl), range4]
    simp only [core1, execOp, opd, putT, put, nth]
    refine opv_all4 k2 ti25 rfl fun bb hbb => ?_
    simp only [core1, fgr, execOp, opd, ofValue, putT, put, nth, forgetL, true_and, wp_pure, wp_rd (hbb.all ti25 rfl rfl), range4, pick4]
    exact ⟨by rw [hwA, e]; rfl, fun j hj => by rw [upd_ne _ _ (by omega)]; exact oh j hj⟩
  have cd := decide_eq_false c
  have ht1 : t + 1 < b256 := by omega
  rw [Nat.mod_eq_of_lt ht1] at k5
  have hnt : b256 - 1 - t < b256 := by omega
  have hq : (if t + 1 = 0 then 0 else (b256 - 1 - t) / (t + 1)) = (b256 - 1 - t) / (t + 1) := if_neg (by omega)
  have hwv := workV_div ht
  have hwl := workV_lt h0
  simp only [core1, fgr, execOp, opd, putT, put, nth, forgetL, cd]
  refine run_draw.2 ⟨rfl, ?_⟩
  simp only [fe_cons, execOp, opd, nth]
  rw [fev_rd (kb.all ti25 rfl rfl), range4]
  simp only [fe_cons, hkr, execOp, opd, opds, putT, put, nth, doCall, callV_func, List.nil_append, List.append_nil, Nat.zero_add]
  refine fev_free f6 (f38 t _ _ ht Free.none) (f38 t _ _ ht f6) fun v3 g3 m3 hm3 hg3 ⟨e3, x3⟩ => ?_
  subst e3
  simp only [fe_cons, execOp, opd, putT, put, nth, Nat.reduceAdd]
  rw [fev_rd ((k5.keep (x3 _ (by omega))).all ti25 rfl rfl), range4]
  simp only [fe_cons, hkr, execOp, opd, opds, putT, put, nth, doCall, callV_func, List.nil_append, List.append_nil, Nat.reduceAdd]
  refine fev_free hg3 (f34 _ (t + 1) _ _ hnt ht1 Free.none) (f34 _ (t + 1) _ _ hnt ht1 hg3) fun v4 g4 m4 hm4 hg4 ⟨e4, x4⟩ => ?_
  subst e4
  simp only [fe_cons, fev_pure, core1, tyr, execOp, opd, putT, put, nth, zeroOf, cel, alloc, doAlloc, newRow, extract, getO, List.getElem?_cons_succ, List.getElem?_cons_zero, Nat.reduceAdd, ↓reduceIte, reduceCtorEq, W]
  refine fev_free hg4 (al25 _ _) (al25 _ _) fun v5 g5 m5 hm5 hg5 ⟨e5, a5, x5, em5⟩ => ?_
  subst e5; subst em5
  simp only [fe_cons, core1, tyr, execOp, putT, put, zeroOf, cel, alloc, doAlloc, newRow, Nat.reduceAdd]
  refine fev_free hg5 (al25 _ _) (al25 _ _) fun v6 g6 m6 hm6 hg6 ⟨e6, a6, x6, em6⟩ => ?_
  subst e6; subst em6
  simp only [fe_cons, execOp, opd, putT, put, nth, Nat.reduceAdd]
  refine fev_all4 (a5.keep (x6 _ (by omega))) ti25 rfl fun b9 l10 => ?_
  simp only [fe_cons, execOp, opd, putT, nth, Nat.reduceAdd]
  refine fev_all4 (a6.upd (by omega)) ti25 rfl fun b10 l11 => ?_
  simp only [fe_nil, fe_cons, fev_pure, core1, fgr, execOp, opd, putT, put, nth, forgetL, Nat.reduceAdd]
  refine ⟨(by (try simp (disch := omega) only [fine, List.all_cons, List.all_nil, clash_pl, clash_pr, clash_rr, Bool.not_false, Bool.true_or, Bool.and_true, Bool.true_and, clash_rw, clash_ww, clash_nn, clash_nw, clash_xn, clash_nx]); repeat' (first | rfl | exact (Bool.or_eq_true _ _).mpr (.inr rfl) | refine (Bool.and_eq_true _ _).mpr ⟨?_, ?_⟩)), ?_⟩
  have k7 := (pick_wd l10).upd (i := m4 + 1) (b := some b10) (by omega)
  have s7 : ∀ j, j < n5 + 1 → (upd (upd g6 m4 (some b9)) (m4 + 1) (some b10)) j = H5 j := fun j hj => by
    rw [upd_ne _ _ (by omega), upd_ne _ _ (by omega), x6 j (by omega), x5 j (by omega), x4 j (by omega), x3 j (by omega)]
  have f7 : Free (upd (upd g6 m4 (some b9)) (m4 + 1) (some b10)) (m4 + 1 + 1) := (hg6.upd (by omega)).upd (by omega)
  generalize upd (upd g6 m4 (some b9)) (m4 + 1) (some b10) = H7 at *
  have k2 := k2.keep (s7 _ (by omega))
  have k4 := k4.keep (s7 _ (by omega))
  have oh : Old h H7 n := fun j hj => by rw [s7 j (by omega)]; exact oh j hj
  rw [opv_rd (k7.all ti25 rfl rfl), range4]
  simp only [core1, execOp, opd, putT, put, nth]
  rw [opv_rd (k4.all ti25 rfl rfl), range4]
  simp only [core1, hkr, execOp, opd, opds, putT, put, nth, doCall, callV_func, List.nil_append, List.append_nil]
  refine opv_callf f7 (f27 ((b256 - 1 - t) / (t + 1)) 1 _ _ (by omega) (by decide) f7) fun v8 h8 n8 hn8 f8 ⟨e8, o8⟩ => ?_
  subst e8
  rw [hwv, Nat.mod_eq_of_lt hwl]
  have k2 := k2.keep (o8 _ (by omega))
  have oh : Old h h8 n := fun j hj => by rw [o8 j (by omega)]; exact oh j hj
  simp only [core1, tyr, execOp, opd, putT, put, nth, zeroOf, cel, alloc, doAlloc, newRow, extract, getO, List.getElem?_cons_succ, List.getElem?_cons_zero, W]
  refine opv_all4 (arr_0 (upd_same _ _ _)) ti25 rfl fun b8 k8 => ?_
  have k8 := pick_wd k8
  simp only [core1, fgr, execOp, opd, putT, put, nth, forgetL]
  rw [opv_rd (k8.all ti25 rfl rfl), range4]
  simp only [core1, execOp, opd, putT, put, nth]
  refine opv_all4 ((k2.upd (by omega)).upd (by omega)) ti25 rfl fun bb hbb => ?_
  simp only [core1, fgr, execOp, opd, ofValue, putT, put, nth, forgetL, true_and, wp_pure, wp_rd (hbb.all ti25 rfl rfl), range4, pick4]
  exact ⟨by rw [hwA]; rfl, fun j hj => by simp (disch := omega) only [upd_ne]; exact oh j hj⟩
/-- One bit more. -/
theorem srch (A j : Nat) (hA : A < 2 ^ 256) (hj : j < 256) : (A / 2 ^ (j + 1) * 2 ^ (j + 1) + 2 ^ j < 2 ^ 256) ∧ A / 2 ^ j * 2 ^ j = if A / 2 ^ (j + 1) * 2 ^ (j + 1) + 2 ^ j ≤ A then A / 2 ^ (j + 1) * 2 ^ (j + 1) + 2 ^ j else A / 2 ^ (j + 1) * 2 ^ (j + 1) := by
  have hp : 0 < 2 ^ j := Nat.two_pow_pos _
  have hpp : (2 : Nat) ^ (j + 1) = 2 * 2 ^ j := by rw [Nat.pow_succ, Nat.mul_comm]
  have h1 : A / 2 ^ (j + 1) = A / 2 ^ j / 2 := by rw [Nat.pow_succ, Nat.div_div_eq_div_mul]
  have h2 := Nat.div_add_mod A (2 ^ j)
  have h3 := Nat.mod_lt A hp
  have h4 : A / 2 ^ j = 2 * (A / 2 ^ j / 2) + A / 2 ^ j % 2 := (Nat.div_add_mod _ 2).symm
  have hq : A / 2 ^ j < 2 ^ (256 - j) := by
    rw [Nat.div_lt_iff_lt_mul hp, ← Nat.pow_add, show 256 - j + j = 256 by omega]; exact hA
  have hq2 : (2 : Nat) ^ (256 - j) = 2 * 2 ^ (255 - j) := by rw [show 256 - j = 255 - j + 1 by omega, Nat.pow_succ, Nat.mul_comm]
  have h6 : (2 : Nat) ^ 256 = 2 ^ (256 - j) * 2 ^ j := by rw [← Nat.pow_add, show 256 - j + j = 256 by omega]
  rw [h1, hpp]
  rw [Nat.mul_comm] at h2
  generalize A / 2 ^ j = q at *
  have e : q / 2 * (2 * 2 ^ j) = 2 * (q / 2) * 2 ^ j := by rw [← Nat.mul_assoc, Nat.mul_comm (q / 2) 2]
  rw [e]
  constructor
  · rw [h6, hq2]
    have : 2 * (q / 2) + 1 < 2 * 2 ^ (255 - j) := by omega
    calc _ = (2 * (q / 2) + 1) * 2 ^ j := by rw [Nat.add_mul, Nat.one_mul]
      _ < _ := (Nat.mul_lt_mul_right hp).2 this
  · have hr : q % 2 = 0 ∨ q % 2 = 1 := by omega
    rcases hr with hr | hr
    · have h5 : 2 * (q / 2) = q := by omega
      rw [h5, if_neg (by omega)]
    · have h5 : 2 * (q / 2) + 1 = q := by omega
      have h7 : 2 * (q / 2) * 2 ^ j + 2 ^ j = q * 2 ^ j := by
        rw [← h5]
        conv => rhs; rw [Nat.add_mul, Nat.one_mul]
        rw [h5]
      rw [h7, if_pos (by omega)]
theorem fits_iff (P : Nat) : P ≤ b256 ↔ P / b256 = 0 ∨ (P % b256 = 0 ∧ P / b256 = 1) := by
  unfold b256; omega
theorem left_1 (j : Nat) (hj : j < 256) : leftV 1 ((j : Nat) : Int) = 2 ^ j := by
  unfold leftV
  split
  · rw [show j = 0 by omega]
  · rw [Int.toNat_natCast, Nat.one_mul, Nat.mod_eq_of_lt]
    rw [p256]; exact Nat.pow_lt_pow_right (by decide) hj
set_option maxHeartbeats 8000000 in
theorem loop24 (Q : Post0) (ks : List Kf) (N t i2 i4 i6 : Nat) (p2 p3 : AVal) (ht : t + 1 < b256) (h0 : t ≠ 0) (d : i2 ≠ i6 ∧ i4 ≠ i6 ∧ i2 ≠ i4) (hN : N ≤ i2 ∧ N ≤ i4 ∧ N ≤ i6) (hh : Hp)
    (hE : ∀ (h : Hp) (n : Nat) (x0 x1 x4 x5 x7 x8 x10 x11 x12 x14 x22 x26 x55 : AVal), Arr .u64 h i2 4 (fun _ => 0) → Arr .u64 h i6 4 (fun j => (wd (workV t) j : Nat)) → Old hh h N → Kont env 24 none Q ks (.exit 0) (x0 :: x1 :: p2 :: p3 :: x4 :: x5 :: .ptr i6 0 :: x7 :: x8 :: AVal.junk :: x10 :: x11 :: x12 :: AVal.junk :: x14 :: AVal.junk :: AVal.junk :: AVal.junk :: AVal.junk :: AVal.junk :: AVal.junk :: AVal.junk :: x22 :: AVal.junk :: AVal.junk :: AVal.junk :: x26 :: AVal.junk :: AVal.junk :: AVal.junk :: AVal.junk :: AVal.junk :: AVal.junk :: AVal.junk :: AVal.junk :: AVal.junk :: AVal.junk :: AVal.junk :: AVal.junk :: AVal.junk :: AVal.junk :: AVal.junk :: AVal.junk :: AVal.junk :: AVal.junk :: AVal.junk :: AVal.junk :: AVal.junk :: AVal.junk :: AVal.junk :: AVal.junk :: AVal.junk :: AVal.junk :: AVal.junk :: AVal.junk :: x55 :: AVal.junk :: AVal.junk :: []) h n) :
    ∀ (j : Nat) (h : Hp) (n : Nat) (x0 x1 x5 x8 x10 x11 x12 x14 x22 x26 x55 : AVal), j ≤ 256 → Arr .u64 h i2 4 (fun _ => 0) → Arr .u64 h i4 4 (fun x => (wd (t + 1) x : Nat)) → Arr .u64 h i6 4 (fun x => (wd (workV t / 2 ^ j * 2 ^ j) x : Nat)) → i2 < n ∧ i4 < n ∧ i6 < n → Free h n → Old hh h N →
    Run env 24 none Q (.loop lp24_0) ks (x0 :: x1 :: p2 :: p3 :: .ptr i4 0 :: x5 :: .ptr i6 0 :: .int .i64 (((j : Nat) : Int) - 1) :: x8 :: AVal.junk :: x10 :: x11 :: x12 :: AVal.junk :: x14 :: AVal.junk :: AVal.junk :: AVal.junk :: AVal.junk :: AVal.junk :: AVal.junk :: AVal.junk :: x22 :: AVal.junk :: AVal.junk :: AVal.junk :: x26 :: AVal.junk :: AVal.junk :: AVal.junk :: AVal.junk :: AVal.junk :: AVal.junk :: AVal.junk :: AVal.junk :: AVal.junk :: AVal.junk :: AVal.junk :: AVal.junk :: AVal.junk :: AVal.junk :: AVal.junk :: AVal.junk :: AVal.junk :: AVal.junk :: AVal.junk :: AVal.junk :: AVal.junk :: AVal.junk :: AVal.junk :: AVal.junk :: AVal.junk :: AVal.junk :: AVal.junk :: AVal.junk :: x55 :: AVal.junk :: AVal.junk :: []) h n := by
  intro j
  induction j with
  | zero =>
    intro h n x0 x1 x5 x8 x10 x11 x12 x14 x22 x26 x55 hj a2 a4 a6 hn hf ho
    have hc : ¬ (0 : Int) ≤ ((0 : Nat) : Int) - 1 := by decide
    rw [run_loop]
    simp only [lp24_0, loopsOf, Try.f24, Option.getD_some, core1, fgr, execOp, opd, ofValue, putT, put, nth, forgetL, bor, binInt, shiftB, intOp, List.nil_append, List.append_nil, Int.cast_ofNat_Int, Int.reduceLE, Int.reduceSub, Int.reduceNeg, ge_iff_le, decide_true, decide_false, List.getD_cons_zero]
    refine hE h n _ _ _ _ _ _ _ _ _ _ _ _ _ a2 (a6.ext fun x hx => ?_) ho
    rw [Nat.pow_zero, Nat.div_one, Nat.mul_one]
  | succ j ih =>
    intro h n x0 x1 x5 x8 x10 x11 x12 x14 x22 x26 x55 hj a2 a4 a6 hn hf ho
    have hc : (0 : Int) ≤ ((j : Nat) : Int) := by omega
    have hm1 : ((j + 1 : Nat) : Int) - 1 = ((j : Nat) : Int) := by omega
    have hw : IntKind.i64.wrap (((j : Nat) : Int) - 1) = ((j : Nat) : Int) - 1 := w64 (by omega) (by omega)
    have hwl := workV_lt h0
    obtain ⟨s1, s2⟩ := srch (workV t) j (by rw [← p256]; exact hwl) (by omega)
    rw [← p256] at s1
    obtain ⟨T, eT⟩ : ∃ T, T = workV t / 2 ^ (j + 1) * 2 ^ (j + 1) + 2 ^ j := ⟨_, rfl⟩
    obtain ⟨B, eB⟩ : ∃ B, B = workV t / 2 ^ (j + 1) * 2 ^ (j + 1) := ⟨_, rfl⟩
    rw [← eT] at s1 s2
    rw [← eB] at s2 a6 eT
    have hBl : B < b256 := by rw [eT] at s1; exact Nat.lt_of_le_of_lt (Nat.le_add_right _ _) s1
    have hpl : 2 ^ j < b256 := by rw [p256]; exact Nat.pow_lt_pow_right (by decide) (by omega)
    have fit : T ≤ workV t ↔ T * (t + 1) / b256 = 0 ∨ (T * (t + 1) % b256 = 0 ∧ T * (t + 1) / b256 = 1) := by
      rw [← fits_iff]
      unfold workV
      exact Nat.le_div_iff_mul_le (by omega)
    have hP : T * (t + 1) / b256 < b256 := by
      rw [Nat.div_lt_iff_lt_mul (by decide)]
      exact Nat.lt_of_le_of_lt (Nat.mul_le_mul_left _ (Nat.le_of_lt ht)) ((Nat.mul_lt_mul_right (by decide)).2 s1)
    have hPm : T * (t + 1) % b256 < b256 := Nat.mod_lt _ (by decide)
    rw [run_loop]
    simp only [lp24_0, loopsOf, Try.f24, Option.getD_some, core1, fgr, execOp, opd, ofValue, putT, put, nth, forgetL, bor, binInt, shiftB, intOp, List.nil_append, List.append_nil, ge_iff_le, decide_true, List.getD_cons_zero, hm1, hc]
    refine run_draw.2 ⟨rfl, ?_⟩
    simp only [fe_cons, execOp, opd, nth]
    rw [fev_rd (a6.all ti25 rfl rfl), range4]
    simp only [fe_cons, hkr, execOp, opd, opds, ofValue, putT, put, doCall, callV_func, List.nil_append, List.append_nil, Nat.zero_add]
    refine fev_free hf (f43 1 _ _ (by decide)) (f43 1 _ _ (by decide)) fun v3 g3 m3 hm3 hg3 ⟨e3, x3⟩ => ?_
    subst e3
    simp only [fe_cons, fev_pure, hkr, execOp, opd, opds, putT, put, nth, doCall, callV_func, List.nil_append, List.append_nil, Nat.reduceAdd]
    refine fev_free hg3 (f46 1 ((j : Nat) : Int) _ _ (by decide) (by omega) Free.none) (f46 1 ((j : Nat) : Int) _ _ (by decide) (by omega) hg3) fun v4 g4 m4 hm4 hg4 ⟨e4, x4⟩ => ?_
    subst e4
    rw [left_1 j (by omega)]
    simp only [fe_cons, hkr, execOp, opd, opds, putT, put, nth, doCall, callV_func, List.nil_append, List.append_nil, Nat.reduceAdd]
    refine fev_free hg4 (f47 B (2 ^ j) _ _ hBl hpl Free.none) (f47 B (2 ^ j) _ _ hBl hpl hg4) fun v5 g5 m5 hm5 hg5 ⟨e5, x5⟩ => ?_
    subst e5
    rw [← eT, Nat.mod_eq_of_lt s1]
    simp only [fe_cons, fev_pure, core1, tyr, execOp, opd, putT, put, nth, zeroOf, cel, alloc, doAlloc, newRow, extract, getO, List.getElem?_cons_succ, List.getElem?_cons_zero, Nat.reduceAdd, W]
    refine fev_free hg5 (al25 _ _) (al25 _ _) fun v6 g6 m6 hm6 hg6 ⟨e6, a8, x6, em6⟩ => ?_
    subst e6; subst em6
    simp only [fe_cons, execOp, opd, putT, put, nth, Nat.reduceAdd]
    refine fev_all4 a8 ti25 rfl fun b8 k8 => ?_
    have k8 := pick_wd k8
    simp only [fe_nil, fe_cons, fev_pure, core1, fgr, execOp, opd, putT, put, nth, forgetL, Nat.reduceAdd]
    refine ⟨(by (try simp (disch := omega) only [fine, List.all_cons, List.all_nil, clash_pl, clash_pr, Bool.not_false, Bool.true_or, Bool.and_true, Bool.true_and, clash_rw, clash_nn, clash_nw, clash_xn]); repeat' (first | rfl | exact (Bool.or_eq_true _ _).mpr (.inr rfl) | refine (Bool.and_eq_true _ _).mpr ⟨?_, ?_⟩)), ?_⟩
    have s7 : ∀ x, x < n → (upd g6 m5 (some b8)) x = h x := fun x hx => by
      rw [upd_ne _ _ (by omega), x6 x (by omega), x5 x (by omega), x4 x (by omega), x3 x (by omega)]
    have f7 : Free (upd g6 m5 (some b8)) (m5 + 1) := hg6.upd (by omega)
    generalize upd g6 m5 (some b8) = H7 at *
    have a2 := a2.keep (s7 _ (by omega))
    have a4 := a4.keep (s7 _ (by omega))
    have a6 := a6.keep (s7 _ (by omega))
    have ho : Old hh H7 N := fun x hx => by rw [s7 x (by omega)]; exact ho x hx
    rw [opv_rd (k8.all ti25 rfl rfl), range4]
    simp only [core1, execOp, opd, putT, put, nth]
    rw [opv_rd (a4.all ti25 rfl rfl), range4]
    simp only [core1, hkr, execOp, opd, opds, putT, put, nth, doCall, callV_func, List.nil_append, List.append_nil]
    refine opv_callf f7 (f42 T (t + 1) _ _ s1 ht f7) fun v8 h8 n8 hn8 f8 ⟨e8, o8⟩ => ?_
    subst e8
    have a2 := a2.keep (o8 _ (by omega))
    have a4 := a4.keep (o8 _ (by omega))
    have a6 := a6.keep (o8 _ (by omega))
    have k8 := k8.keep (o8 _ (by omega))
    have ho : Old hh h8 N := fun x hx => by rw [o8 x (by omega)]; exact ho x hx
    simp only [core1, tyr, execOp, opd, putT, put, nth, zeroOf, cel, alloc, doAlloc, newRow, extract, getO, List.getElem?_cons_succ, List.getElem?_cons_zero, W]
    refine opv_all4 (arr_0 (by rw [upd_ne _ _ (by omega)]; exact upd_same _ _ _)) ti25 rfl fun b10 k10 => ?_
    simp only [core1, execOp, opd, putT, nth]
    refine opv_all4 (arr_0 (by rw [upd_ne _ _ (by omega)]; exact upd_same _ _ _)) ti25 rfl fun b11 k11 => ?_
    have k10 := (pick_wd k10).upd (i := n8 + 1) (b := some b11) (by omega)
    have k11 := pick_wd k11
    have s9 : ∀ x, x < n8 → (upd (upd (upd (upd h8 n8 (some (Blk.row (Cont.l [AVal.int IntKind.u64 0, AVal.int IntKind.u64 0, AVal.int IntKind.u64 0, AVal.int IntKind.u64 0]) 25))) (n8 + 1) (some (Blk.row (Cont.l [AVal.int IntKind.u64 0, AVal.int IntKind.u64 0, AVal.int IntKind.u64 0, AVal.int IntKind.u64 0]) 25))) n8 (some b10)) (n8 + 1) (some b11)) x = h8 x := fun x hx => by simp (disch := omega) only [upd_ne]
    have f9 : Free (upd (upd (upd (upd h8 n8 (some (Blk.row (Cont.l [AVal.int IntKind.u64 0, AVal.int IntKind.u64 0, AVal.int IntKind.u64 0, AVal.int IntKind.u64 0]) 25))) (n8 + 1) (some (Blk.row (Cont.l [AVal.int IntKind.u64 0, AVal.int IntKind.u64 0, AVal.int IntKind.u64 0, AVal.int IntKind.u64 0]) 25))) n8 (some b10)) (n8 + 1) (some b11)) (n8 + 1 + 1) := ((f8.new.new).upd (by omega)).upd (by omega)
    generalize upd (upd (upd (upd h8 n8 (some (Blk.row (Cont.l [AVal.int IntKind.u64 0, AVal.int IntKind.u64 0, AVal.int IntKind.u64 0, AVal.int IntKind.u64 0]) 25))) (n8 + 1) (some (Blk.row (Cont.l [AVal.int IntKind.u64 0, AVal.int IntKind.u64 0, AVal.int IntKind.u64 0, AVal.int IntKind.u64 0]) 25))) n8 (some b10)) (n8 + 1) (some b11) = H9 at *
    have a2 := a2.keep (s9 _ (by omega))
    have a4 := a4.keep (s9 _ (by omega))
    have a6 := a6.keep (s9 _ (by omega))
    have k8 := k8.keep (s9 _ (by omega))
    have ho : Old hh H9 N := fun x hx => by rw [s9 x (by omega)]; exact ho x hx
    simp only [core1, fgr, putT, forgetL]
    refine run_draw.2 ⟨rfl, ?_⟩
    simp only [fe_cons, execOp, opd, nth]
    rw [fev_rd (k10.all ti25 rfl rfl), range4]
    simp only [fe_cons, hkr, execOp, opd, opds, putT, put, nth, doCall, callV_func, List.nil_append, List.append_nil, Nat.zero_add]
    refine fev_free f9 (f41 _ _ _ hPm Free.none) (f41 _ _ _ hPm f9) fun v3 g3' m3' hm3' hg3' ⟨e3, x3'⟩ => ?_
    subst e3
    by_cases l0 : T * (t + 1) % b256 = 0
    case' pos =>
      have l0d := decide_eq_true l0
      simp only [fe_cons, fe_guard, fego_some, feg_bool, feg_tt, fev_pure, execOp, opd, putT, put, nth, List.getElem?_cons_succ, List.getElem?_cons_zero, Nat.reduceAdd, l0d]
      rw [fev_rd ((k11.keep (x3' _ (by omega))).all ti25 rfl rfl), range4]
      simp only [fe_guard, fego_some, feg_bool, feg_tt, hkr, execOp, opd, opds, ofValue, putT, put, nth, doCall, callV_func, List.getElem?_cons_succ, List.getElem?_cons_zero, List.nil_append, List.append_nil, Nat.reduceAdd]
      refine fev_free hg3' (f43 1 _ _ (by decide)) (f43 1 _ _ (by decide)) fun v4 g4' m4' hm4' hg4' ⟨e4, x4'⟩ => ?_
      subst e4
      simp only [fe_guard, fego_some, feg_bool, feg_tt, hkr, execOp, opd, opds, putT, put, nth, doCall, callV_func, List.getElem?_cons_succ, List.getElem?_cons_zero, List.nil_append, List.append_nil, Nat.reduceAdd]
      refine fev_free hg4' (f48 _ 1 _ _ hP (by decide) Free.none) (f48 _ 1 _ _ hP (by decide) hg4') fun v5 g10 m10 hm10 hg10 ⟨e5, x5'⟩ => ?_
      subst e5
      obtain ⟨b12, eb⟩ : ∃ b, b = decide (T * (t + 1) / b256 = 1) := ⟨_, rfl⟩
      have cm : decide (cmpV (T * (t + 1) / b256) 1 = 0) = b12 := by
        rw [eb]
        unfold cmpV
        by_cases q : T * (t + 1) / b256 = 1
        · rw [if_pos q, decide_eq_true rfl, decide_eq_true q]
        · rw [if_neg q, decide_eq_false q]
          by_cases q2 : T * (t + 1) / b256 < 1
          · rw [if_pos q2]; rfl
          · rw [if_neg q2]; rfl
      have hb0 : ¬ (T * (t + 1) % b256 = 0 ∧ T * (t + 1) / b256 = 1) → b12 = false := fun q => by rw [eb]; exact decide_eq_false fun w => q ⟨l0, w⟩
      have hb1 : (T * (t + 1) % b256 = 0 ∧ T * (t + 1) / b256 = 1) → b12 = true := fun q => by rw [eb]; exact decide_eq_true q.2
      simp only [fe_nil, fe_cons, fe_guard, fego_some, feg_bool, feg_tt, fev_ask, fev_pure, core1, fgr, execOp, opd, ofValue, putT, put, nth, forgetL, bor, binInt, shiftB, intOp, doPick, branch, List.getElem?_cons_succ, List.getElem?_cons_zero, Nat.reduceAdd, int_beq, decide_true, cm]
      refine ⟨(by (try simp (disch := omega) only [fine, List.all_cons, List.all_nil, clash_pl, clash_pr, clash_rr, Bool.not_false, Bool.true_or, Bool.and_true, clash_nn, clash_xn, clash_nx]); repeat' (first | rfl | exact (Bool.or_eq_true _ _).mpr (.inr rfl) | refine (Bool.and_eq_true _ _).mpr ⟨?_, ?_⟩)), ?_⟩
      have s10 : ∀ x, x < n8 + 1 + 1 → g10 x = H9 x := fun x hx => by rw [x5' x (by omega), x4' x (by omega), x3' x (by omega)]
    case' neg =>
      have l0d := decide_eq_false l0
      obtain ⟨b12, eb⟩ : ∃ b, b = false := ⟨_, rfl⟩
      have hb0 : ¬ (T * (t + 1) % b256 = 0 ∧ T * (t + 1) / b256 = 1) → b12 = false := fun _ => eb
      have hb1 : (T * (t + 1) % b256 = 0 ∧ T * (t + 1) / b256 = 1) → b12 = true := fun q => absurd q.1 l0
      simp only [fe_nil, fe_cons, fe_guard, fego_some, feg_bool, feg_tf, fev_ask, fev_pure, core1, fgr, execOp, opd, ofValue, putT, put, nth, forgetL, doPick, branch, List.getElem?_cons_succ, List.getElem?_cons_zero, Nat.reduceAdd, l0d]
      refine ⟨(by (try simp (disch := omega) only [fine, List.all_cons, List.all_nil, clash_pr, Bool.not_false, Bool.true_or, Bool.and_true, clash_xn]); repeat' (first | rfl | exact (Bool.or_eq_true _ _).mpr (.inr rfl) | refine (Bool.and_eq_true _ _).mpr ⟨?_, ?_⟩)), ?_⟩
      have s10 : ∀ x, x < n8 + 1 + 1 → g3' x = H9 x := fun x hx => x3' x (by omega)
      have hg10 := hg3'
      have hm10 : m3' ≤ m3' := Nat.le_refl _
      have hm4' : n8 ≤ m3' := by omega
      generalize g3' = g10 at *
      generalize m3' = m10 at *
    all_goals
      have a2 := a2.keep (s10 _ (by omega))
      have a4 := a4.keep (s10 _ (by omega))
      have a6 := a6.keep (s10 _ (by omega))
      have k8 := k8.keep (s10 _ (by omega))
      have k11 := k11.keep (s10 _ (by omega))
      have ho : Old hh g10 N := fun x hx => by rw [s10 x (by omega)]; exact ho x hx
      rw [opv_rd (k11.all ti25 rfl rfl), range4]
      simp only [core1, hkr, execOp, opd, opds, putT, put, nth, doCall, callV_func, List.nil_append, List.append_nil]
      refine opv_callf hg10 (f41 _ _ _ hP hg10) fun v12 h12 n12 hn12 f12 ⟨e12, o12⟩ => ?_
      subst e12
      have a2 := a2.keep (o12 _ (by omega))
      have a4 := a4.keep (o12 _ (by omega))
      have a6 := a6.keep (o12 _ (by omega))
      have k8 := k8.keep (o12 _ (by omega))
      have ho : Old hh h12 N := fun x hx => by rw [o12 x (by omega)]; exact ho x hx
      by_cases hz : T * (t + 1) / b256 = 0
      · have d0 := decide_eq_true hz
        rw [if_pos (fit.2 (.inl hz))] at s2
        simp only [core1, fgr, execOp, opd, ofValue, putT, put, nth, forgetL, doPick, branch, List.getElem?_cons_succ, List.getElem?_cons_zero, d0]
        rw [opv_rd (k8.all ti25 rfl rfl), range4]
        simp only [core1, execOp, opd, putT, put, nth]
        refine opv_all4 a6 ti25 rfl fun b6 k6 => ?_
        have k6 := pick_wd k6
        simp only [core1, fgr, execOp, opd, ofValue, putT, put, nth, forgetL, bor, binInt, shiftB, intOp, wrapI, decide_true, hw]
        refine ih _ n12 _ _ _ _ _ _ _ _ _ _ _ (by omega) (a2.upd (by omega)) (a4.upd (by omega)) (k6.ext fun x hx => by rw [s2]) (by omega) (f12.upd (by omega)) (fun x hx => by rw [upd_ne _ _ (by omega)]; exact ho x hx)
      have d0 := decide_eq_false hz
      by_cases hone : T * (t + 1) % b256 = 0 ∧ T * (t + 1) / b256 = 1
      · first
        | exact absurd hone.1 l0
        | rw [if_pos (fit.2 (.inr hone))] at s2
          simp only [core1, fgr, execOp, opd, ofValue, putT, put, nth, forgetL, doPick, branch, List.getElem?_cons_succ, List.getElem?_cons_zero, d0, hb1 hone]
          rw [opv_rd (k8.all ti25 rfl rfl), range4]
          simp only [core1, execOp, opd, putT, put, nth]
          refine opv_all4 a6 ti25 rfl fun b6 k6 => ?_
          have k6 := pick_wd k6
          simp only [core1, fgr, execOp, opd, ofValue, putT, put, nth, forgetL, bor, binInt, shiftB, intOp, wrapI, decide_true, hw]
          refine ih _ n12 _ _ _ _ _ _ _ _ _ _ _ (by omega) (a2.upd (by omega)) (a4.upd (by omega)) (k6.ext fun x hx => by rw [s2]) (by omega) (f12.upd (by omega)) (fun x hx => by rw [upd_ne _ _ (by omega)]; exact ho x hx)
      · rw [if_neg (fun q => (fit.1 q).elim hz hone)] at s2
        simp only [core1, fgr, execOp, opd, ofValue, putT, put, nth, forgetL, bor, binInt, shiftB, intOp, wrapI, doPick, branch, List.getElem?_cons_succ, List.getElem?_cons_zero, decide_true, d0, hb0 hone, hw]
        refine ih _ n12 _ _ _ _ _ _ _ _ _ _ _ (by omega) a2 a4 (a6.ext fun x hx => by rw [s2]) (by omega) f12 ho
/- The work of a target: the document's, the whole. -/
set_option maxHeartbeats 4000000 in
theorem f24 (t : Nat) (h : Hp) (n : Nat) (ht : t < b256) (hf : Free h n) : Wp (callI env (evalW env) 24 [W t]) h n fun v' h' n' => v' = workA t ∧ Old h h' n := by
  refine wp_callI ff24 fi24 ?_
  have kb : Arr .u64 (upd (upd h n (some (Blk.row (Cont.l [AVal.int IntKind.u64 (wd t 0 : Nat), AVal.int IntKind.u64 (wd t 1 : Nat), AVal.int IntKind.u64 (wd t 2 : Nat), AVal.int IntKind.u64 (wd t 3 : Nat)]) 25))) (n + 1) (some (Blk.row (Cont.l [AVal.int IntKind.u64 0, AVal.int IntKind.u64 0, AVal.int IntKind.u64 0, AVal.int IntKind.u64 0]) 25))) n 4 (fun j => (wd t j : Nat)) := arr_W (by rw [upd_ne _ _ (by omega)]; exact upd_same _ _ _)
  have k2 : Arr .u64 (upd (upd h n (some (Blk.row (Cont.l [AVal.int IntKind.u64 (wd t 0 : Nat), AVal.int IntKind.u64 (wd t 1 : Nat), AVal.int IntKind.u64 (wd t 2 : Nat), AVal.int IntKind.u64 (wd t 3 : Nat)]) 25))) (n + 1) (some (Blk.row (Cont.l [AVal.int IntKind.u64 0, AVal.int IntKind.u64 0, AVal.int IntKind.u64 0, AVal.int IntKind.u64 0]) 25))) (n + 1) 4 (fun _ => 0) := arr_0 (upd_same _ _ _)
  simp only [fu24, Try.f24, Option.getD_some, List.replicate, core1, tyr, fgr, execOp, opd, ofValue, putT, put, nth, forgetL, zeroOf, cel, alloc, doAlloc, newRow, ended, resultOf, oneOrTup, List.cons_append, List.nil_append, List.length_cons, List.length_nil, Nat.reduceSub, Nat.zero_add, W]
  have oh : Old h (upd (upd h n (some (Blk.row (Cont.l [AVal.int IntKind.u64 (wd t 0 : Nat), AVal.int IntKind.u64 (wd t 1 : Nat), AVal.int IntKind.u64 (wd t 2 : Nat), AVal.int IntKind.u64 (wd t 3 : Nat)]) 25))) (n + 1) (some (Blk.row (Cont.l [AVal.int IntKind.u64 0, AVal.int IntKind.u64 0, AVal.int IntKind.u64 0, AVal.int IntKind.u64 0]) 25))) n := fun j hj => by rw [upd_ne _ _ (by omega), upd_ne _ _ (by omega)]
  have f0 := (hf.new (b := some (Blk.row (Cont.l [AVal.int IntKind.u64 (wd t 0 : Nat), AVal.int IntKind.u64 (wd t 1 : Nat), AVal.int IntKind.u64 (wd t 2 : Nat), AVal.int IntKind.u64 (wd t 3 : Nat)]) 25))).new (b := some (Blk.row (Cont.l [AVal.int IntKind.u64 0, AVal.int IntKind.u64 0, AVal.int IntKind.u64 0, AVal.int IntKind.u64 0]) 25))
  generalize upd (upd h n (some (Blk.row (Cont.l [AVal.int IntKind.u64 (wd t 0 : Nat), AVal.int IntKind.u64 (wd t 1 : Nat), AVal.int IntKind.u64 (wd t 2 : Nat), AVal.int IntKind.u64 (wd t 3 : Nat)]) 25))) (n + 1) (some (Blk.row (Cont.l [AVal.int IntKind.u64 0, AVal.int IntKind.u64 0, AVal.int IntKind.u64 0, AVal.int IntKind.u64 0]) 25)) = H0 at *
  rw [opv_rd (kb.all ti25 rfl rfl), range4]
  simp only [core1, hkr, execOp, opd, opds, putT, put, nth, doCall, callV_func, List.nil_append, List.append_nil]
  refine opv_callf f0 (f41 t _ _ ht f0) fun v1 h1 n1 hn1 f1 ⟨e1, o1⟩ => ?_
  subst e1
  have kb := kb.keep (o1 _ (by omega))
  have k2 := k2.keep (o1 _ (by omega))
  have oh : Old h h1 n := fun j hj => by rw [o1 j (by omega)]; exact oh j hj
  by_cases h0 : t = 0
  · simp (disch := omega) only [core1, tyr, fgr, execOp, opd, ops2, putT, put, nth, forgetL, sizeOf, cel, getO, decide_true, build, fill, h0]
    refine opv_all4 k2 ti25 rfl fun bb hbb => ?_
    simp only [core1, fgr, execOp, opd, ofValue, putT, put, nth, forgetL, true_and, wp_pure, wp_rd (hbb.all ti25 rfl rfl), range4, pick4]
    exact ⟨by rw [workA, if_pos rfl]; rfl, fun j hj => by rw [upd_ne _ _ (by omega)]; exact oh j hj⟩
  have hwA : workA t = .tup [W (workV t), .int .i64 0] := if_neg h0
  simp only [core1, fgr, opd, putT, put, nth, forgetL, decide_false, h0]
  refine run_draw.2 ⟨rfl, ?_⟩
  simp only [fe_cons, execOp, opd, nth]
  rw [fev_rd (kb.all ti25 rfl rfl), range4]
  simp only [fe_cons, hkr, execOp, opd, opds, ofValue, putT, put, doCall, callV_func, List.nil_append, List.append_nil, Nat.zero_add]
  refine fev_free f1 (f43 1 _ _ (by decide)) (f43 1 _ _ (by decide)) fun v3 g3 m3 hm3 hg3 ⟨e3, x3⟩ => ?_
  subst e3
  simp only [fe_cons, hkr, execOp, opd, opds, putT, put, nth, doCall, callV_func, List.nil_append, List.append_nil, Nat.reduceAdd]
  refine fev_free hg3 (f47 t 1 _ _ ht (by decide) Free.none) (f47 t 1 _ _ ht (by decide) hg3) fun v4 g4 m4 hm4 hg4 ⟨e4, x4⟩ => ?_
  subst e4
  simp only [fe_cons, fev_pure, core1, tyr, execOp, opd, putT, put, nth, zeroOf, cel, alloc, doAlloc, newRow, extract, getO, List.getElem?_cons_succ, List.getElem?_cons_zero, Nat.reduceAdd, W]
  refine fev_free hg4 (al25 _ _) (al25 _ _) fun v5 g5 m5 hm5 hg5 ⟨e5, a5, x5, em5⟩ => ?_
  subst e5; subst em5
  simp only [fe_cons, execOp, opd, putT, put, nth, Nat.reduceAdd]
  refine fev_all4 a5 ti25 rfl fun b4 k4 => ?_
  have k4 := pick_wd k4
  simp only [fe_nil, fe_cons, fev_pure, core1, fgr, execOp, opd, putT, put, nth, forgetL, Nat.reduceAdd]
  refine ⟨(by (try simp (disch := omega) only [fine, List.all_cons, List.all_nil, clash_pl, clash_pr, Bool.not_false, Bool.true_or, Bool.and_true, Bool.true_and, clash_rw, clash_nn, clash_nw, clash_xn]); repeat' (first | rfl | exact (Bool.or_eq_true _ _).mpr (.inr rfl) | refine (Bool.and_eq_true _ _).mpr ⟨?_, ?_⟩)), ?_⟩
  have s4 : ∀ j, j < n1 → (upd g5 m4 (some b4)) j = h1 j := fun j hj => by
    rw [upd_ne _ _ (by omega), x5 j (by omega), x4 j (by omega), x3 j (by omega)]
  have f4 : Free (upd g5 m4 (some b4)) (m4 + 1) := hg5.upd (by omega)
  generalize upd g5 m4 (some b4) = H4 at *
  have k2 := k2.keep (s4 _ (by omega))
  have oh : Old h H4 n := fun j hj => by rw [s4 j (by omega)]; exact oh j hj
  by_cases c : b256 ≤ t + 1
  · have cd := decide_eq_true c
    have e : workV t = 1 := by unfold workV; rw [show t + 1 = b256 by omega]; decide
    simp only [core1, hkr, execOp, opd, opds, ofValue, doCall, callV_func, List.nil_append, List.append_nil, cd]
    refine opv_callf f4 (f43 1 _ _ (by decide)) fun v6 h6 n6 hn6 f6 ⟨e6, o6⟩ => ?_
    subst e6
    simp only [core1, execOp, opd, putT, put, nth, W]
    refine opv_all4 (k2.keep (o6 _ (by omega))) ti25 rfl fun bb hbb => ?_
    simp only [core1, fgr, execOp, opd, ofValue, putT, put, nth, forgetL, true_and, wp_pure, wp_rd (hbb.all ti25 rfl rfl), range4, pick4]
    exact ⟨by rw [hwA, e]; rfl, fun j hj => by rw [upd_ne _ _ (by omega), o6 j (by omega)]; exact oh j hj⟩
  have cd := decide_eq_false c
  have ht1 : t + 1 < b256 := by omega
  rw [Nat.mod_eq_of_lt ht1] at k4
  have hwl := workV_lt h0
  have hz : workV t / 2 ^ 256 * 2 ^ 256 = 0 := by rw [Nat.div_eq_of_lt (by rw [← p256]; exact hwl), Nat.zero_mul]
  simp (disch := omega) only [core1, tyr, execOp, opd, ops2, putT, put, nth, sizeOf, zeroOf, cel, alloc, doAlloc, newRow, getO, build, fill, cd]
  refine opv_all4 (arr_0 (upd_same _ _ _)) ti25 rfl fun b6 k6 => ?_
  simp only [core1, fgr, execOp, opd, ofValue, putT, put, forgetL]
  refine loop24 _ _ n t (n + 1) m4 (m4 + 1) _ _ ht1 h0 (by omega) (by omega) h ?_ 256 _ (m4 + 1 + 1) _ _ _ _ _ _ _ _ _ _ _ (Nat.le_refl _) ((k2.upd (by omega)).upd (by omega)) ((k4.upd (by omega)).upd (by omega)) (k6.ext fun j hj => ?_) (by omega) ((f4.new).upd (by omega)) (fun j hj => by rw [upd_ne _ _ (by omega), upd_ne _ _ (by omega)]; exact oh j hj)
  · intro h9 n9 x0 x1 x4 x5 x7 x8 x10 x11 x12 x14 x22 x26 x55 a2 a6 o9
    simp only [core1, execOp, opd, nth]
    rw [opv_rd (a6.all ti25 rfl rfl), range4]
    simp only [core1, execOp, opd, putT, put, nth]
    refine opv_all4 a2 ti25 rfl fun bb hbb => ?_
    simp only [core1, fgr, execOp, opd, ofValue, putT, put, nth, forgetL, true_and, wp_pure, wp_rd (hbb.all ti25 rfl rfl), range4, pick4]
    exact ⟨by rw [hwA]; rfl, fun j hj => by rw [upd_ne _ _ (by omega)]; exact o9 j hj⟩
  · rw [hz]
    match j, hj with
    | 0, _ => rfl
    | 1, _ => rfl
    | 2, _ => rfl
    | 3, _ => rfl
/- The number of bytes; whether a hash is below: the program's. -/
theorem t47 : und env 47 = M.pure (.array 32 5) := rfl
/-- The number whose lowest byte stands first. -/
def leN (g : Nat → Nat) : Nat → Nat
  | 0 => 0
  | m + 1 => leN g m + g m * 2 ^ (8 * m)
theorem leN_lt (g : Nat → Nat) (m : Nat) (hg : ∀ j, j < m → g j < 256) : leN g m < 2 ^ (8 * m) := by
  induction m with
  | zero => exact Nat.one_pos
  | succ m ih =>
    have h1 := ih fun j hj => hg j (by omega)
    have h2 := hg m (by omega)
    rw [leN, show 8 * (m + 1) = 8 * m + 8 by omega, Nat.pow_add]
    calc _ < 2 ^ (8 * m) + g m * 2 ^ (8 * m) := Nat.add_lt_add_right h1 _
      _ = (g m + 1) * 2 ^ (8 * m) := by rw [Nat.add_mul, Nat.one_mul, Nat.add_comm]
      _ ≤ 256 * 2 ^ (8 * m) := Nat.mul_le_mul_right _ (by omega)
      _ = _ := Nat.mul_comm _ _
theorem leN_ext {g f : Nat → Nat} (m : Nat) (h : ∀ j, j < m → g j = f j) : leN g m = leN f m := by
  induction m with
  | zero => rfl
  | succ m ih => rw [leN, leN, ih fun j hj => h j (by omega), h m (by omega)]
theorem byte_or (X b i j : Nat) (hX : X < 2 ^ (8 * i)) (hb : b < 256) : wd (X + b * 2 ^ (8 * i)) j = if j = i / 8 then wd X j ||| (b * 2 ^ (i % 8 * 8)) else wd X j := by
  have h1 : X + b * 2 ^ (8 * i) = b * 2 ^ (8 * i) ||| X := by rw [or_low _ X (8 * i) (Nat.mul_mod_left _ _) hX, Nat.add_comm]
  rw [h1, Nat.or_comm]
  have wor : wd (X ||| b * 2 ^ (8 * i)) j = wd X j ||| wd (b * 2 ^ (8 * i)) j := by
    unfold wd
    rw [show (18446744073709551616 : Nat) = 2 ^ 64 from rfl, Nat.or_div_two_pow, Nat.or_mod_two_pow]
  have hs : i % 8 < 8 := Nat.mod_lt _ (by decide)
  have hl : b * 2 ^ (i % 8 * 8) < 18446744073709551616 := by
    calc b * 2 ^ (i % 8 * 8) < 256 * 2 ^ (i % 8 * 8) := (Nat.mul_lt_mul_right (Nat.two_pow_pos _)).2 hb
      _ ≤ 256 * 2 ^ 56 := Nat.mul_le_mul_left _ (Nat.pow_le_pow_right (by decide) (by omega))
      _ = _ := rfl
  have e : b * 2 ^ (8 * i) = b * 2 ^ (i % 8 * 8) * 2 ^ (64 * (i / 8)) := by
    rw [Nat.mul_assoc, ← Nat.pow_add]; congr 2; omega
  have wb : wd (b * 2 ^ (8 * i)) j = if j = i / 8 then b * 2 ^ (i % 8 * 8) else 0 := by
    rw [e]
    unfold wd
    by_cases h : j = i / 8
    · subst h
      rw [if_pos rfl, Nat.mul_div_cancel _ (Nat.two_pow_pos _), Nat.mod_eq_of_lt hl]
    · rw [if_neg h]
      by_cases h2 : j < i / 8
      · rw [show 64 * (i / 8) = (64 * (i / 8 - j - 1) + 64) + 64 * j by omega, Nat.pow_add, ← Nat.mul_assoc, Nat.mul_div_cancel _ (Nat.two_pow_pos _), Nat.pow_add, ← Nat.mul_assoc]
        exact Nat.mul_mod_left _ _
      · rw [Nat.div_eq_of_lt, Nat.zero_mod]
        calc b * 2 ^ (i % 8 * 8) * 2 ^ (64 * (i / 8)) < 2 ^ 64 * 2 ^ (64 * (i / 8)) := (Nat.mul_lt_mul_right (Nat.two_pow_pos _)).2 hl
          _ = 2 ^ (64 + 64 * (i / 8)) := (Nat.pow_add _ _ _).symm
          _ ≤ _ := Nat.pow_le_pow_right (by decide) (by omega)
  rw [wor, wb]
  by_cases h : j = i / 8
  · rw [if_pos h, if_pos h]
  · rw [if_neg h, if_neg h, Nat.or_zero]
theorem loop54 (Q : Post0) (ks : List Kf) (g : Nat → Nat) (hg : ∀ j, j < 32 → g j < 256) (v : AVal) (p2 p3 : AVal) (i4 iv n : Nat) (d : i4 ≠ iv) (h0 : Hp)
    (hq : ∀ (h : Hp) (x0 x5 x6 x9 x11 x12 x13 x14 : AVal), Arr .u64 h i4 4 (fun j => (wd (leN g 32) j : Nat)) → (∀ j, j ≠ i4 → h j = h0 j) → Kont env 54 none Q ks (.exit 0) (x0 :: AVal.junk :: p2 :: p3 :: .ptr i4 0 :: x5 :: x6 :: AVal.junk :: AVal.junk :: x9 :: AVal.junk :: x11 :: x12 :: x13 :: x14 :: AVal.junk :: AVal.junk :: AVal.junk :: AVal.junk :: AVal.junk :: AVal.junk :: AVal.junk :: AVal.junk :: AVal.junk :: AVal.junk :: AVal.junk :: AVal.junk :: AVal.junk :: AVal.junk :: AVal.junk :: AVal.junk :: AVal.junk :: []) h n) :
    ∀ (k i : Nat) (h : Hp) (x0 x5 x6 x9 x14 : AVal), i + k = 32 → Arr .u64 h i4 4 (fun j => (wd (leN g i) j : Nat)) → Nums .u8 h v iv 0 32 32 (fun j => (g j : Nat)) → (∀ j, j ≠ i4 → h j = h0 j) → i4 < n → Free h n →
    Run env 54 none Q (.loop lp54_0) ks (x0 :: AVal.junk :: p2 :: p3 :: .ptr i4 0 :: x5 :: x6 :: AVal.junk :: AVal.junk :: x9 :: AVal.junk :: v :: .int .i64 32 :: .int .i64 (i : Nat) :: x14 :: AVal.junk :: AVal.junk :: AVal.junk :: AVal.junk :: AVal.junk :: AVal.junk :: AVal.junk :: AVal.junk :: AVal.junk :: AVal.junk :: AVal.junk :: AVal.junk :: AVal.junk :: AVal.junk :: AVal.junk :: AVal.junk :: AVal.junk :: []) h n := by
  intro k
  induction k with
  | zero =>
    intro i h x0 x5 x6 x9 x14 hi ha hv hk b4 hf
    have : i = 32 := by omega
    subst this
    have hc : ¬ ((32 : Nat) : Int) < 32 := by decide
    rw [run_loop]
    simp only [lp54_0, loopsOf, Try.f54, Option.getD_some, core1, fgr, execOp, opd, putT, put, nth, forgetL, bor, binInt, shiftB, intOp, List.nil_append, List.append_nil, Int.cast_ofNat_Int, Int.reduceLT, decide_true, decide_false, List.getD_cons_zero]
    exact hq h _ _ _ _ _ _ _ _ ha hk
  | succ k ih =>
    intro i h x0 x5 x6 x9 x14 hi ha hv hk b4 hf
    have h4 : i < 32 := by omega
    have hc : ((i : Nat) : Int) < 32 := by omega
    have hw : IntKind.i64.wrap (((i : Nat) : Int) + 1) = ((i + 1 : Nat) : Int) := by rw [w64 (by omega) (by omega)]; omega
    have q1 : IntKind.i64.wrap (Int.tdiv ((i : Nat) : Int) 8) = ((i / 8 : Nat) : Int) := by rw [Int.tdiv_eq_ediv_of_nonneg (by omega), w64 (by omega) (by omega)]; omega
    have q2 : IntKind.i64.wrap (Int.tmod ((i : Nat) : Int) 8 * 8) = ((i % 8 * 8 : Nat) : Int) := by rw [Int.tmod_eq_emod_of_nonneg (by omega), w64 (by omega) (by omega)]; omega
    have h64 : i / 8 < 4 := by omega
    have h0r : (0 : Int) ≤ ((i % 8 * 8 : Nat) : Int) := by omega
    have hb := hg i h4
    have hX := leN_lt g i fun j hj => hg j (by omega)
    have bo := fun j => byte_or (leN g i) (g i) i j hX hb
    have hlt : g i * 2 ^ (i % 8 * 8) < 18446744073709551616 := by
      calc g i * 2 ^ (i % 8 * 8) < 256 * 2 ^ (i % 8 * 8) := (Nat.mul_lt_mul_right (Nat.two_pow_pos _)).2 hb
        _ ≤ 256 * 2 ^ 56 := Nat.mul_le_mul_left _ (Nat.pow_le_pow_right (by decide) (by omega))
        _ = _ := rfl
    have cv : IntKind.u64.wrap ((g i : Nat) : Int) = ((g i : Nat) : Int) := wu64 (by omega) (by omega)
    have sh := ushl (g i) (i % 8 * 8) (by omega)
    rw [Nat.mod_eq_of_lt hlt] at sh
    rw [run_loop]
    simp only [lp54_0, loopsOf, Try.f54, Option.getD_some, core1, fgr, execOp, opd, putT, put, nth, forgetL, bor, binInt, shiftB, intOp, List.nil_append, List.append_nil, decide_true, List.getD_cons_zero, hc]
    rw [opv_rd (hv.idx0 t86 s5 rfl h4)]
    simp only [core1, execOp, opd, putT, put, nth]
    rw [opv_rd (hv.load0 ti5 rfl h4)]
    simp only [core1, fgr, execOp, opd, putT, put, nth, forgetL]
    refine run_draw.2 ⟨rfl, ?_⟩
    simp only [fe_cons, fev_ob, fev_pure, execOp, opd, ofValue, putT, put, nth, bor, binInt, shiftB, intOp, wrapI, Nat.reduceAdd, Int.reduceNe, decide_true, true_and, Nat.zero_add, q1]
    rw [fev_rd (arr_idx t25 s23 rfl h64)]
    simp only [fe_cons, execOp, opd, putT, put, nth, Nat.reduceAdd]
    rw [fev_rd (ha.load ti23 rfl h64)]
    simp only [fe_cons, fev_ob, fev_pure, core1, tyr, execOp, opd, ofValue, putT, put, nth, und, lenOf, bor, binInt, shiftB, shiftOp, intOp, wrapI, strK, intK, Nat.reduceAdd, Int.reduceNe, decide_true, true_and, convert, convStr, isU8, cv, q2, h0r, sh, uor (wd_lt _ _) hlt]
    rw [fev_rd (arr_idx t25 s23 rfl h64)]
    simp only [fe_cons, execOp, opd, putT, put, nth, Nat.reduceAdd]
    refine fev_st ha ti23 rfl h64 fun b hb => ?_
    simp only [fe_nil, core1, fgr, execOp, opd, ofValue, putT, put, nth, forgetL, bor, binInt, shiftB, intOp, wrapI, Nat.reduceAdd, decide_true]
    refine ⟨(by (try simp (disch := omega) only [fine, List.all_cons, List.all_nil, clash_pl, clash_pr, clash_rr, Bool.not_false, Bool.true_or, Bool.and_true, Bool.true_and]); repeat' (first | rfl | exact (Bool.or_eq_true _ _).mpr (.inr rfl) | refine (Bool.and_eq_true _ _).mpr ⟨?_, ?_⟩)), ?_⟩
    simp only [hw]
    refine ih (i + 1) _ _ _ _ _ _ (by omega) (hb.ext fun j hj => ?_) (hv.upd (by omega)) (fun j hj => by rw [upd_ne _ _ hj]; exact hk j hj) b4 (hf.upd b4)
    rw [leN, bo]
    by_cases e : j = i / 8
    · simp only [if_pos e]; rw [e]
    · simp only [if_neg e]
theorem f54 (g : Nat → Nat) (hg : ∀ j, j < 32 → g j < 256) (v : AVal) (iv : Nat) (h : Hp) (n : Nat) (hi : iv < n) (hv : Nums .u8 h v iv 0 32 32 (fun j => (g j : Nat))) (hf : Free h n) : Wp (callI env (evalW env) 54 [v]) h n fun v' h' n' => v' = .tup [W (leN g 32), .int .i64 0] ∧ Old h h' n := by
  refine wp_callI ff54 fi54 ?_
  simp only [fu54, Try.f54, Option.getD_some, List.replicate, core1, tyr, fgr, execOp, opd, opds, ofValue, putT, put, nth, forgetL, doCall, builtin, one1, zeroOf, bor, binInt, shiftB, intOp, cel, alloc, doAlloc, newRow, ended, resultOf, oneOrTup, List.cons_append, List.nil_append, List.length_cons, List.length_nil, Nat.reduceSub, Int.cast_ofNat_Int, decide_true, Nat.zero_add, bne_self_eq_false, hv.len t86]
  refine loop54 _ _ g hg v _ _ (n + 1) iv (n + 1 + 1) (by omega) _ ?_ 32 0 _ _ _ _ _ _ rfl ((arr_0 (upd_same _ _ _)).ext fun j hj => ?_) ((hv.upd (by omega)).upd (by omega)) (fun _ _ => rfl) (by omega) hf.new.new
  · intro h' x0 x5 x6 x9 x11 x12 x13 x14 ha hk
    simp only [core1, execOp, opd, nth]
    rw [opv_rd (ha.all ti25 rfl rfl), range4]
    simp only [core1, execOp, opd, putT, put, nth]
    refine opv_all4 (arr_0 (by rw [hk n (by omega), upd_ne _ _ (by omega)]; exact upd_same _ _ _)) ti25 rfl fun bb hbb => ?_
    simp only [core1, fgr, execOp, opd, ofValue, putT, put, nth, forgetL, true_and, wp_pure, wp_rd (hbb.all ti25 rfl rfl), range4, pick4]
    exact ⟨rfl, fun j hj => by rw [upd_ne _ _ (by omega), hk j (by omega), upd_ne _ _ (by omega), upd_ne _ _ (by omega)]⟩
  · rw [leN]
    match j, hj with
    | 0, _ => rfl
    | 1, _ => rfl
    | 2, _ => rfl
    | 3, _ => rfl
set_option maxHeartbeats 1000000 in
theorem f25 (g : Nat → Nat) (hg : ∀ j, j < 32 → g j < 256) (t : Nat) (h : Hp) (n : Nat) (ht : t < b256) (hf : Free h n) : Wp (callI env (evalW env) 25 [.agg (cellsF .u8 32 (fun j => (g j : Nat))), W t]) h n fun v' h' n' => v' = .bool (decide (leN g 32 ≤ t)) ∧ Old h h' n := by
  refine wp_callI ff25 fi25 ?_
  simp only [fu25, Try.f25, Option.getD_some, List.replicate, core1, tyr, fgr, execOp, opd, opt, ofValue, putT, put, nth, forgetL, cel, alloc, newRow, ended, resultOf, oneOrTup, List.cons_append, List.nil_append, List.length_cons, List.length_nil, Nat.reduceAdd, Nat.reduceSub, Nat.zero_add, wp_pure, W]
  rw [opv_rd (arr_slice (l := 0) (hi := 32) t47 s5 (fun k => .inl (bound_none 0 k (Nat.zero_le _))) (bound_none 32 32 (Nat.le_refl _)) (by decide))]
  simp only [core1, hkr, execOp, opd, opds, putT, put, nth, doCall, callV_func, List.nil_append, List.append_nil, Nat.reduceSub]
  refine opv_callf hf.new.new (f54 g hg _ n _ _ (by omega) ⟨⟨_, rfl⟩, by decide, 47, by rw [upd_ne _ _ (by omega)]; exact upd_same _ _ _⟩ hf.new.new) fun v1 h1 n1 hn1 f1 ⟨e1, o1⟩ => ?_
  subst e1
  have hl : leN g 32 < b256 := by rw [p256]; exact leN_lt g 32 hg
  have k3 : Arr .u64 h1 (n + 1) 4 (fun j => (wd t j : Nat)) := (arr_W (upd_same _ _ _)).keep (o1 _ (by omega))
  simp only [core1, tyr, execOp, opd, putT, put, nth, zeroOf, cel, alloc, doAlloc, newRow, extract, getO, List.getElem?_cons_succ, List.getElem?_cons_zero, W]
  refine opv_all4 (arr_0 (upd_same _ _ _)) ti25 rfl fun b5 k5 => ?_
  have k5 := pick_wd k5
  have f5 : Free (upd (upd h1 n1 (some (Blk.row (Cont.l [AVal.int IntKind.u64 0, AVal.int IntKind.u64 0, AVal.int IntKind.u64 0, AVal.int IntKind.u64 0]) 25))) n1 (some b5)) (n1 + 1) := f1.new.upd (by omega)
  simp only [core1, fgr, execOp, opd, putT, put, nth, forgetL]
  rw [opv_rd (k5.all ti25 rfl rfl), range4]
  simp only [core1, execOp, opd, putT, put, nth]
  rw [opv_rd (((k3.upd (by omega)).upd (by omega)).all ti25 rfl rfl), range4]
  simp only [core1, hkr, execOp, opd, opds, putT, put, nth, doCall, callV_func, List.nil_append, List.append_nil]
  refine opv_callf f5 (f17 (leN g 32) t _ _ hl ht f5) fun v2 h2 n2 hn2 f2 ⟨e2, o2⟩ => ?_
  subst e2
  have hd : decide ((if leN g 32 = t then (0 : Int) else if leN g 32 < t then -1 else 1) ≤ 0) = decide (leN g 32 ≤ t) := by
    by_cases q : leN g 32 = t
    · rw [if_pos q, decide_eq_true (by decide), decide_eq_true (by omega)]
    · rw [if_neg q]
      by_cases q2 : leN g 32 < t
      · rw [if_pos q2, decide_eq_true (by decide), decide_eq_true (by omega)]
      · rw [if_neg q2, decide_eq_false (by decide), decide_eq_false (by omega)]
  simp only [core1, fgr, execOp, opd, ofValue, putT, put, nth, forgetL, bor, binInt, shiftB, intOp, Int.reduceNeg, decide_true, true_and, hd]
  exact fun j hj => by rw [o2 j (by omega), upd_ne _ _ (by omega), upd_ne _ _ (by omega), o1 j (by omega), upd_ne _ _ (by omega), upd_ne _ _ (by omega)]
/- Whether a hash is below: the document's. -/
theorem leN_by (t m : Nat) : leN (byN t) m = t % 2 ^ (8 * m) := by
  induction m with
  | zero => rw [leN, Nat.mul_zero, Nat.pow_zero, Nat.mod_one]
  | succ m ih =>
    rw [leN, ih, show 8 * (m + 1) = 8 * m + 8 by omega, Nat.pow_add, Nat.mod_mul]
    unfold byN
    rw [Nat.mul_comm (2 ^ (8 * m))]
theorem leN_top (f g : Nat → Nat) (m k : Nat) (hk : m ≤ k) (h : ∀ j, m ≤ j → j < k → f j = g j) : leN f k + leN g m = leN g k + leN f m := by
  obtain ⟨d, rfl⟩ := Nat.le.dest hk
  induction d with
  | zero => exact Nat.add_comm _ _
  | succ d ih =>
    have h1 := ih (by omega) fun j h1 h2 => h j h1 (by omega)
    rw [← Nat.add_assoc, leN, leN, h (m + d) (by omega) (by omega)]
    omega
theorem leN_cmp (f g : Nat → Nat) (hf : ∀ j, j < 32 → f j < 256) (hg : ∀ j, j < 32 → g j < 256) (m : Nat) (hm : m < 32) (h : ∀ j, m < j → j < 32 → f j = g j) (hne : f m ≠ g m) : leN f 32 ≤ leN g 32 ↔ f m < g m := by
  have h1 := leN_top f g (m + 1) 32 (by omega) fun j a b => h j (by omega) b
  have h2 := leN_lt f m fun j hj => hf j (by omega)
  have h3 := leN_lt g m fun j hj => hg j (by omega)
  have a1 : leN f (m + 1) = leN f m + f m * 2 ^ (8 * m) := by rw [leN]
  have a2 : leN g (m + 1) = leN g m + g m * 2 ^ (8 * m) := by rw [leN]
  rw [a1, a2] at h1
  clear a1 a2
  generalize 2 ^ (8 * m) = P at *
  generalize leN f 32 = F at *
  generalize leN g 32 = G at *
  generalize leN f m = F0 at *
  generalize leN g m = G0 at *
  generalize f m = x at *
  generalize g m = y at *
  constructor
  · intro q
    by_cases c : x < y
    · exact c
    · have : (y + 1) * P ≤ x * P := Nat.mul_le_mul_right _ (by omega)
      rw [Nat.add_mul, Nat.one_mul] at this
      omega
  · intro q
    have : (x + 1) * P ≤ y * P := Nat.mul_le_mul_right _ (by omega)
    rw [Nat.add_mul, Nat.one_mul] at this
    omega
theorem loop26 (Q : Post0) (ks : List Kf) (g : Nat → Nat) (t : Nat) (ht : t < b256) (hg : ∀ j, j < 32 → g j < 256) (v : AVal) (i2 iv n : Nat) (h : Hp)
    (hh : Nums .u8 h (.sl i2 0 32 (some 32) 1) i2 0 32 32 (fun j => (g j : Nat))) (hv : Nums .u8 h v iv 0 32 32 (fun j => (byN t j : Nat)))
    (hE : leN g 32 ≤ t → ∀ (x0 x1 x2 x3 x4 x5 x6 x10 x20 : AVal), Kont env 26 none Q ks (.exit 0) (x0 :: x1 :: x2 :: x3 :: x4 :: x5 :: x6 :: AVal.junk :: AVal.junk :: AVal.junk :: x10 :: AVal.junk :: AVal.junk :: AVal.junk :: AVal.junk :: AVal.junk :: AVal.junk :: AVal.junk :: AVal.junk :: AVal.junk :: x20 :: AVal.junk :: AVal.junk :: AVal.junk :: AVal.junk :: AVal.junk :: AVal.junk :: AVal.junk :: AVal.junk :: []) h n)
    (hR : ∀ (x0 x1 x2 x3 x5 x6 x10 x20 : AVal), Kont env 26 none Q ks .ret (x0 :: x1 :: x2 :: x3 :: .bool (decide (leN g 32 ≤ t)) :: x5 :: x6 :: AVal.junk :: AVal.junk :: AVal.junk :: x10 :: AVal.junk :: AVal.junk :: AVal.junk :: AVal.junk :: AVal.junk :: AVal.junk :: AVal.junk :: AVal.junk :: AVal.junk :: x20 :: AVal.junk :: AVal.junk :: AVal.junk :: AVal.junk :: AVal.junk :: AVal.junk :: AVal.junk :: AVal.junk :: []) h n) :
    ∀ (j : Nat) (x0 x1 x3 x4 x10 x20 : AVal), j ≤ 32 → (∀ i, j ≤ i → i < 32 → g i = byN t i) →
    Run env 26 none Q (.loop lp26_0) ks (x0 :: x1 :: .ptr i2 0 :: x3 :: x4 :: v :: .int .i64 (((j : Nat) : Int) - 1) :: AVal.junk :: AVal.junk :: AVal.junk :: x10 :: AVal.junk :: AVal.junk :: AVal.junk :: AVal.junk :: AVal.junk :: AVal.junk :: AVal.junk :: AVal.junk :: AVal.junk :: x20 :: AVal.junk :: AVal.junk :: AVal.junk :: AVal.junk :: AVal.junk :: AVal.junk :: AVal.junk :: AVal.junk :: []) h n := by
  have htt : leN (byN t) 32 = t := by rw [leN_by, Nat.mod_eq_of_lt]; rw [← p256]; exact ht
  intro j
  induction j with
  | zero =>
    intro x0 x1 x3 x4 x10 x20 hj hk
    have hc : ¬ (0 : Int) ≤ ((0 : Nat) : Int) - 1 := by decide
    have he : leN g 32 = t := by rw [← htt]; exact leN_ext 32 fun i hi => hk i (Nat.zero_le _) hi
    rw [run_loop]
    simp only [lp26_0, loopsOf, Try.f26, Option.getD_some, core1, fgr, execOp, opd, ofValue, putT, put, nth, forgetL, bor, binInt, shiftB, intOp, List.nil_append, List.append_nil, Int.cast_ofNat_Int, Int.reduceLE, Int.reduceSub, Int.reduceNeg, ge_iff_le, decide_true, decide_false, List.getD_cons_zero]
    exact hE (by omega) _ _ _ _ _ _ _ _ _
  | succ j ih =>
    intro x0 x1 x3 x4 x10 x20 hj hk
    have hc : (0 : Int) ≤ ((j : Nat) : Int) := by omega
    have hm1 : ((j + 1 : Nat) : Int) - 1 = ((j : Nat) : Int) := by omega
    have hw : IntKind.i64.wrap (((j : Nat) : Int) - 1) = ((j : Nat) : Int) - 1 := w64 (by omega) (by omega)
    have h32 : j < 32 := by omega
    rw [run_loop]
    simp only [lp26_0, loopsOf, Try.f26, Option.getD_some, core1, fgr, execOp, opd, ofValue, putT, put, nth, forgetL, bor, binInt, shiftB, intOp, List.nil_append, List.append_nil, ge_iff_le, decide_true, List.getD_cons_zero, hm1, hc]
    refine run_draw.2 ⟨rfl, ?_⟩
    simp only [fe_cons, fev_pure, execOp, opd, putT, put, nth, Nat.zero_add]
    rw [fev_rd (arr_idx t47 s5 rfl h32)]
    simp only [fe_cons, execOp, opd, putT, put, nth, Nat.reduceAdd]
    rw [fev_rd (hh.load0 ti5 rfl h32)]
    simp only [fe_cons, fev_pure, execOp, opd, putT, put, nth, Nat.reduceAdd]
    rw [fev_rd (hv.idx0 t86 s5 rfl h32)]
    simp only [fe_cons, execOp, opd, putT, put, nth, Nat.reduceAdd]
    rw [fev_rd (hv.load0 ti5 rfl h32)]
    by_cases e : g j = byN t j
    · simp only [fe_nil, fe_cons, fev_pure, core1, fgr, execOp, opd, ofValue, putT, put, nth, forgetL, bor, binInt, shiftB, intOp, wrapI, Nat.reduceAdd, decide_true, bne_self_eq_false, e]
      refine ⟨(by (try simp (disch := omega) only [fine, List.all_cons, List.all_nil, clash_pr, clash_rr, Bool.not_false, Bool.true_or, Bool.and_true]); repeat' (first | rfl | exact (Bool.or_eq_true _ _).mpr (.inr rfl) | refine (Bool.and_eq_true _ _).mpr ⟨?_, ?_⟩)), ?_⟩
      simp only [hw]
      refine ih _ _ _ _ _ _ (by omega) fun i h1 h2 => ?_
      by_cases q : i = j
      · rw [q]; exact e
      · exact hk i (by omega) h2
    · have ei : ¬ ((g j : Nat) : Int) = ((byN t j : Nat) : Int) := by omega
      have hcm := leN_cmp g (byN t) hg (fun j _ => byN_lt t j) j h32 (fun i h1 h2 => hk i (by omega) h2) e
      rw [htt] at hcm
      have hd : decide (((g j : Nat) : Int) < ((byN t j : Nat) : Int)) = decide (leN g 32 ≤ t) := by
        by_cases q : g j < byN t j
        · rw [decide_eq_true (hcm.2 q), decide_eq_true (by omega)]
        · rw [decide_eq_false (fun w => q (hcm.1 w)), decide_eq_false (by omega)]
      simp only [fe_nil, fe_cons, fev_pure, core1, fgr, execOp, opd, putT, put, nth, forgetL, bor, binInt, shiftB, intOp, Nat.reduceAdd, int_bne, not_false_eq_true, decide_true, ei]
      refine ⟨(by (try simp (disch := omega) only [fine, List.all_cons, List.all_nil, clash_pr, clash_rr, Bool.not_false, Bool.true_or, Bool.and_true]); repeat' (first | rfl | exact (Bool.or_eq_true _ _).mpr (.inr rfl) | refine (Bool.and_eq_true _ _).mpr ⟨?_, ?_⟩)), ?_⟩
      refine run_draw.2 ⟨rfl, ?_⟩
      simp only [fe_cons, fev_pure, execOp, opd, putT, put, nth, Nat.zero_add]
      rw [fev_rd (arr_idx t47 s5 rfl h32)]
      simp only [fe_cons, execOp, opd, putT, put, nth, Nat.reduceAdd]
      rw [fev_rd (hh.load0 ti5 rfl h32)]
      simp only [fe_cons, fev_pure, execOp, opd, putT, put, nth, Nat.reduceAdd]
      rw [fev_rd (hv.idx0 t86 s5 rfl h32)]
      simp only [fe_cons, execOp, opd, putT, put, nth, Nat.reduceAdd]
      rw [fev_rd (hv.load0 ti5 rfl h32)]
      simp only [fe_nil, fe_cons, fev_pure, core1, fgr, execOp, opd, putT, put, nth, forgetL, bor, binInt, shiftB, intOp, Nat.reduceAdd, decide_true, hd]
      refine ⟨(by (try simp (disch := omega) only [fine, List.all_cons, List.all_nil, clash_pr, clash_rr, Bool.not_false, Bool.true_or, Bool.and_true]); repeat' (first | rfl | exact (Bool.or_eq_true _ _).mpr (.inr rfl) | refine (Bool.and_eq_true _ _).mpr ⟨?_, ?_⟩)), ?_⟩
      exact hR _ _ _ _ _ _ _ _
theorem f26 (g : Nat → Nat) (hg : ∀ j, j < 32 → g j < 256) (t : Nat) (h : Hp) (n : Nat) (ht : t < b256) (hf : Free h n) : Wp (callI env (evalW env) 26 [.agg (cellsF .u8 32 (fun j => (g j : Nat))), W t]) h n fun v' h' n' => v' = .bool (decide (leN g 32 ≤ t)) ∧ Old h h' n := by
  refine wp_callI ff26 fi26 ?_
  simp only [fu26, Try.f26, Option.getD_some, List.replicate, core1, tyr, fgr, execOp, opd, ofValue, putT, put, nth, forgetL, cel, alloc, newRow, ended, resultOf, oneOrTup, List.cons_append, List.nil_append, List.length_cons, List.length_nil, Nat.reduceAdd, Nat.reduceSub, Nat.zero_add, wp_pure, W]
  rw [opv_rd ((arr_W (a := t) (upd_same _ _ _)).all ti25 rfl rfl), range4]
  simp only [core1, hkr, execOp, opd, opds, putT, put, nth, doCall, callV_func, List.nil_append, List.append_nil]
  refine opv_callf hf.new.new (f53 t _ _ hf.new.new) fun v1 h1 n1 hn1 f1 ⟨i1, y1⟩ => ?_
  have e1 := y1.eq
  have yo := y1.old
  have yn := y1.nums
  subst e1
  have hh : Nums .u8 h1 (.sl n 0 32 (some 32) 1) n 0 32 32 (fun j => (g j : Nat)) := ⟨⟨_, rfl⟩, by decide, 47, by rw [yo n (by omega), upd_ne _ _ (by omega)]; exact upd_same _ _ _⟩
  have oo : Old h h1 n := fun j hj => by rw [yo j (by omega), upd_ne _ _ (by omega), upd_ne _ _ (by omega)]
  simp only [core1, fgr, execOp, opd, ofValue, putT, put, nth, forgetL]
  refine loop26 _ _ g t ht hg _ n i1 n1 h1 hh yn ?_ ?_ 32 _ _ _ _ _ _ (Nat.le_refl _) (fun i a b => by omega)
  · intro hle x0 x1 x2 x3 x4 x5 x6 x10 x20
    simp only [core1, fgr, execOp, opd, ofValue, putT, put, nth, forgetL, true_and, decide_eq_true hle]
    exact oo
  · intro x0 x1 x2 x3 x5 x6 x10 x20
    simp only [core1, nth, true_and]
    exact oo
/- Forms, works, and what is below: the document's. -/
def expQ (n : Nat) : Nat := (expV n).getD 0
def expE (n : Nat) : Int := match expV n with | none => 50 | some _ => 0
theorem expA_eq (n : Nat) : expA n = .tup [W (expQ n), .int .i64 (expE n)] := by
  unfold expA expQ expE
  cases expV n <;> rfl
theorem expQ_lt (n : Nat) : expQ n < b256 := by
  unfold expQ expV
  split
  · rename_i h; exact h.1
  · decide
def compQ (a : Nat) : Nat := if a = 0 then 0 else compV a
def compE (a : Nat) : Int := if a = 0 then 50 else 0
theorem compA_eq (a : Nat) : compA a = .tup [.int .u32 (compQ a : Nat), .int .i64 (compE a)] := by
  unfold compA compQ compE
  by_cases h : a = 0
  · simp only [if_pos h]; rfl
  · simp only [if_neg h]
def workQ (a : Nat) : Nat := if a = 0 then 0 else workV a
theorem workA_eq (a : Nat) : workA a = .tup [W (workQ a), .int .i64 (compE a)] := by
  unfold workA workQ compE
  by_cases h : a = 0
  · simp only [if_pos h]
  · simp only [if_neg h]
theorem workQ_lt (a : Nat) : workQ a < b256 := by
  unfold workQ
  by_cases h : a = 0
  · rw [if_pos h]; decide
  · rw [if_neg h]; exact workV_lt h
theorem arr_cells {k : IntKind} {h : Hp} {id m e : Nat} {g : Nat → Int} (hh : h id = some (.row (.l (cellsF k m g)) e)) : Arr k h id m g :=
  ⟨_, e, hh, cellsF_len _ _ _, fun j hj => by
    have h1 := cellsF_get k g hj
    obtain ⟨hl, hx⟩ := List.getElem?_eq_some_iff.1 h1
    rw [Cont.at_l hl, hx]⟩
theorem arg_hash {vs : List AVal} (ha : Arg Try.prog 47 vs) : ∃ g : Nat → Nat, (∀ j, j < 32 → g j < 256) ∧ vs = cellsF .u8 32 (fun j => (g j : Nat)) := by
  have hc47 : Try.prog.cellsOf 47 = 32 := by kernel_rfl
  have hc5 : Try.prog.cellsOf 5 = 1 := by kernel_rfl
  obtain ⟨hl, q⟩ := ha.array_inv Try.underlying47
  rw [hc47] at hl
  have each : ∀ i, i < 32 → ∃ w : Nat, w < 256 ∧ vs[i]? = some (.int .u8 (w : Nat)) := fun i hi => by
    have h1 := q i hi
    rw [hc5, Nat.mul_one] at h1
    have hi' : i < vs.length := by omega
    have h2 : (vs.drop i).take 1 = [vs[i]] := by
      rw [List.drop_eq_getElem_cons hi']; rfl
    rw [h2] at h1
    obtain ⟨z, e1, hw⟩ := h1.int_inv Try.underlying5
    injection e1 with e1
    simp only [Lit.wf, Bool.and_eq_true, decide_eq_true_eq] at hw
    have hm : IntKind.u8.min = 0 := rfl
    have hM : IntKind.u8.max = 255 := rfl
    rw [hm, hM] at hw
    exact ⟨z.toNat, by omega, by rw [List.getElem?_eq_getElem hi', e1, Int.toNat_of_nonneg hw.1]⟩
  have each2 : ∀ i, ∃ w : Nat, i < 32 → w < 256 ∧ vs[i]? = some (.int .u8 (w : Nat)) := fun i => by
    by_cases hi : i < 32
    · obtain ⟨w, a⟩ := each i hi; exact ⟨w, fun _ => a⟩
    · exact ⟨0, fun a => absurd a hi⟩
  obtain ⟨g, hg⟩ := Classical.axiomOfChoice each2
  refine ⟨g, fun j hj => (hg j hj).1, List.ext_getElem? fun i => ?_⟩
  by_cases hi : i < 32
  · rw [(hg i hi).2, cellsF_get _ _ hi]
  · rw [List.getElem?_eq_none (by omega), List.getElem?_eq_none (by rw [cellsF_len]; omega)]
theorem wf_nat32 {c : Int} (w : (Lit.int .u32 c).wf = true) : ∃ b : Nat, b < 4294967296 ∧ c = (b : Nat) := by
  simp only [Lit.wf, Bool.and_eq_true, decide_eq_true_eq] at w
  have h1 : IntKind.u32.min = 0 := rfl
  have h2 : IntKind.u32.max = 4294967295 := rfl
  exact ⟨c.toNat, by omega, by omega⟩
end Go.Am.Ytmlagocbphoedaa
