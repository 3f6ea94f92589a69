/- The functions that the statement reaches, gone through. -/
import Derived.Test.YtmlagocbphoedaaEnv
import Derived.Test.YtmlagocbphoedaaAoP
import Derived.Test.YtmlagocbphoedaaAoQ
set_option linter.unusedSimpArgs false
set_option linter.unusedVariables false
set_option linter.defProp false
set_option maxRecDepth 10000
namespace Go.Am.Ytmlagocbphoedaa
open Go Go.Am Go.Proofs
/- Sums and differences of numbers of four words. -/
theorem t25 : und env 25 = M.pure (.array 4 23) := rfl
theorem s23 : sizeOf env 23 = M.pure 1 := rfl
theorem f19 (a : Nat) (h : Hp) (n : Nat) (ha : a < 18446744073709551616) : Wp (callI env (evalW env) 19 [.int .u64 (a : Nat)]) h n fun v' h' n' => v' = W a ∧ Old h h' n := by
  refine wp_callI ff19 fi19 ?_
  simp (disch := omega) only [fu19, Try.f19, Option.getD_some, List.replicate, core1, tyr, fgr, execOp, opd, ops2, putT, put, nth, forgetL, sizeOf, zeroOf, readCells, cellsOf, aggB, cel, alloc, doAlloc, newRow, getO, ended, resultOf, oneOrTup, rowK, List.cons_append, List.nil_append, List.length_cons, List.length_nil, Nat.reduceAdd, Nat.reduceSub, not_false_eq_true, Bool.not_false, Bool.and_true, Bool.true_and, true_and, Nat.zero_add, Nat.zero_mul, wp_pure, reduceCtorEq, memr, build, fill, List.take_succ_cons, List.take_zero, List.drop_succ_cons, List.drop_zero, Nat.ble, writeCells, setAll, Cont.size, Cont.set, Cont.sub, upd_same, List.all_cons, List.all_nil, Option.some.injEq, exists_eq_left', ne_eq, true_and, List.length_cons, List.length_nil, Nat.zero_mul, wp_get, wp_ob, build]
  exact ⟨W_eq (a := a) (b := 0) (c := 0) (d := 0) (by unfold of4; omega) ha (by decide) (by decide) (by decide), ((Old.refl _ _).upd (Nat.le_refl _)).upd (Nat.le_refl _)⟩
def cyA (a b : Nat) : Nat → Nat
  | 0 => 0
  | j + 1 => addC (wd a j) (wd b j) (cyA a b j)
def dgA (a b j : Nat) : Nat := addD (wd a j) (wd b j) (cyA a b j)
theorem cyA_le (a b : Nat) : ∀ j, cyA a b j ≤ 1 := by
  intro j
  induction j with
  | zero => exact Nat.zero_le _
  | succ j ih => exact addC_le (wd_lt _ _) (wd_lt _ _) ih
theorem add_res {a b : Nat} (ha : a < b256) (hb : b < b256) : AVal.agg [.int .u64 (dgA a b 0 : Nat), .int .u64 (dgA a b 1 : Nat), .int .u64 (dgA a b 2 : Nat), .int .u64 (dgA a b 3 : Nat)] = W ((a + b) % b256) ∧ decide (0 < ((cyA a b 4 : Nat) : Int)) = decide (b256 ≤ a + b) := by
  have h1 : of4 (dgA a b 0) (dgA a b 1) (dgA a b 2) (dgA a b 3) + cyA a b 4 * b256 = of4 (wd a 0) (wd a 1) (wd a 2) (wd a 3) + of4 (wd b 0) (wd b 1) (wd b 2) (wd b 3) := add_words _ _ _ _ _ _ _ _
  rw [of4_wd ha, of4_wd hb] at h1
  have h2 : of4 (dgA a b 0) (dgA a b 1) (dgA a b 2) (dgA a b 3) < b256 := of4_lt (addD_lt _ _ _) (addD_lt _ _ _) (addD_lt _ _ _) (addD_lt _ _ _)
  have h3 := cyA_le a b 4
  have hB : b256 = 115792089237316195423570985008687907853269984665640564039457584007913129639936 := rfl
  rw [hB] at h1 h2 ha hb ⊢
  refine ⟨W_eq (by omega) (addD_lt _ _ _) (addD_lt _ _ _) (addD_lt _ _ _) (addD_lt _ _ _), ?_⟩
  by_cases hc : cyA a b 4 = 0
  · rw [decide_eq_false (by omega), decide_eq_false (by rw [hc] at h1; omega)]
  · have : cyA a b 4 = 1 := by omega
    rw [decide_eq_true (by omega), decide_eq_true (by rw [this] at h1; omega)]
theorem arr_set {k : IntKind} {h : Hp} {id i : Nat} {z : Int} {g : Nat → Int} (ha : Arr k h id 4 (fun x => if x = i then z else if x < i then g x else 0)) (hz : z = g i) : Arr k h id 4 (fun x => if x < i + 1 then g x else 0) :=
  ha.ext fun j hj => by
    by_cases e : j = i
    · rw [if_pos e, if_pos (by omega), hz, e]
    · rw [if_neg e]
      by_cases e2 : j < i
      · rw [if_pos e2, if_pos (by omega)]
      · rw [if_neg e2, if_neg (by omega)]
theorem loop27 (Q : Post0) (ks : List Kf) (a b i2 i3 i4 n : Nat) (d2 : i2 ≠ i4) (d3 : i3 ≠ i4) (b4 : i4 < n) (h0 : Hp)
    (hq : ∀ (h : Hp) (x0 x1 x2 x3 x5 x7 x8 x9 : AVal), Arr .u64 h i4 4 (fun j => (dgA a b j : Nat)) → (∀ j, j ≠ i4 → h j = h0 j) → Free h n → Kont env 27 none Q ks (.exit 0) (x0 :: x1 :: x2 :: x3 :: .ptr i4 0 :: x5 :: .int .u64 (cyA a b 4 : Nat) :: x7 :: x8 :: x9 :: AVal.junk :: AVal.junk :: AVal.junk :: AVal.junk :: AVal.junk :: AVal.junk :: AVal.junk :: AVal.junk :: AVal.junk :: AVal.junk :: AVal.junk :: AVal.junk :: AVal.junk :: AVal.junk :: AVal.junk :: AVal.junk :: AVal.junk :: AVal.junk :: []) h n) :
    ∀ (k i : Nat) (h : Hp) (x0 x1 x5 x7 x9 : AVal), i + k = 4 → Arr .u64 h i2 4 (fun j => (wd a j : Nat)) → Arr .u64 h i3 4 (fun j => (wd b j : Nat)) → Arr .u64 h i4 4 (fun j => if j < i then (dgA a b j : Nat) else 0) → (∀ j, j ≠ i4 → h j = h0 j) → Free h n →
    Run env 27 none Q (.loop lp27_0) ks (x0 :: x1 :: .ptr i2 0 :: .ptr i3 0 :: .ptr i4 0 :: x5 :: .int .u64 (cyA a b i : Nat) :: x7 :: .int .i64 (i : Nat) :: x9 :: AVal.junk :: AVal.junk :: AVal.junk :: AVal.junk :: AVal.junk :: AVal.junk :: AVal.junk :: AVal.junk :: AVal.junk :: AVal.junk :: AVal.junk :: AVal.junk :: AVal.junk :: AVal.junk :: AVal.junk :: AVal.junk :: AVal.junk :: AVal.junk :: []) h n := by
  intro k
  induction k with
  | zero =>
    intro i h x0 x1 x5 x7 x9 hi ha hb ho hk hf
    have : i = 4 := by omega
    subst this
    have hc : ¬ ((4 : Nat) : Int) < 4 := by decide
    rw [run_loop]
    simp only [lp27_0, loopsOf, Try.f27, Option.getD_some, core1, fgr, execOp, opd, ofValue, putT, put, nth, forgetL, bor, binInt, shiftB, intOp, List.nil_append, List.append_nil, Int.cast_ofNat_Int, Int.reduceLT, decide_true, decide_false, List.getD_cons_zero]
    exact hq h _ _ _ _ _ _ _ _ (ho.ext fun j hj => if_pos hj) hk hf
  | succ k ih =>
    intro i h x0 x1 x5 x7 x9 hi ha hb ho hk hf
    have h4 : i < 4 := by omega
    have hc : ((i : Nat) : Int) < 4 := by omega
    have hw : IntKind.i64.wrap (((i : Nat) : Int) + 1) = ((i + 1 : Nat) : Int) := by rw [w64 (by omega) (by omega)]; omega
    rw [run_loop]
    simp only [lp27_0, loopsOf, Try.f27, Option.getD_some, core1, fgr, execOp, opd, ofValue, putT, put, nth, forgetL, bor, binInt, shiftB, intOp, List.nil_append, List.append_nil, decide_true, List.getD_cons_zero, hc]
    refine run_draw.2 ⟨rfl, ?_⟩
    simp only [fe_cons, fev_pure, execOp, opd, putT, put, nth, Nat.reduceAdd, Nat.zero_add]
    rw [fev_rd (arr_idx t25 s23 rfl h4)]
    simp only [fe_cons, execOp, opd, putT, put, nth, Nat.reduceAdd]
    rw [fev_rd (ha.load ti23 rfl h4)]
    simp only [fe_cons, fev_pure, execOp, opd, putT, put, nth, Nat.reduceAdd]
    rw [fev_rd (arr_idx t25 s23 rfl h4)]
    simp only [fe_cons, execOp, opd, putT, put, nth, Nat.reduceAdd]
    rw [fev_rd (hb.load ti23 rfl h4)]
    simp only [fe_cons, fev_ob, fev_pure, hkr, execOp, opd, opds, putT, put, nth, doCall, callV_func, extract, getO, List.getElem?_cons_succ, List.getElem?_cons_zero, List.nil_append, List.append_nil, Nat.reduceAdd, true_and, add_eq (cyA_le a b i)]
    rw [fev_rd (arr_idx t25 s23 rfl h4)]
    simp only [fe_cons, execOp, opd, putT, put, nth, Nat.reduceAdd]
    refine fev_arr ho hf b4 ti23 rfl h4 fun bb rr ww ho2 => ?_
    simp only [fe_nil, fe_cons, fev_pure, core1, fgr, execOp, opd, ofValue, putT, put, nth, forgetL, bor, binInt, shiftB, intOp, wrapI, Nat.reduceAdd, decide_true]
    rw [hw]
    refine ⟨(by (try simp (disch := omega) only [fine, List.all_cons, List.all_nil, clash_pl, clash_pr, clash_rr, Bool.not_false, Bool.true_or, Bool.and_true, Bool.true_and]); repeat' (first | rfl | exact (Bool.or_eq_true _ _).mpr (.inr rfl) | refine (Bool.and_eq_true _ _).mpr ⟨?_, ?_⟩)), ?_⟩
    refine ih (i + 1) _ _ _ _ _ _ (by omega) (ha.upd d2) (hb.upd d3) (arr_set ho2 rfl) (fun j hj => by rw [upd_ne _ _ hj]; exact hk j hj) (hf.upd b4)
theorem f27 (a b : Nat) (h : Hp) (n : Nat) (ha : a < b256) (hb : b < b256) (hf : Free h n) : Wp (callI env (evalW env) 27 [W a, W b]) h n fun v' h' n' => v' = .tup [W ((a + b) % b256), .bool (decide (b256 ≤ a + b))] ∧ Old h h' n := by
  refine wp_callI ff27 fi27 ?_
  simp (disch := omega) only [fu27, Try.f27, Option.getD_some, List.replicate, core1, tyr, fgr, execOp, opd, ofValue, putT, put, nth, forgetL, zeroOf, cel, alloc, doAlloc, newRow, ended, resultOf, oneOrTup, List.cons_append, List.nil_append, List.length_cons, List.length_nil, Nat.reduceAdd, Nat.reduceSub, Nat.zero_add, List.length_cons, List.length_nil, W]
  refine loop27 _ _ a b n (n + 1) (n + 1 + 1) (n + 1 + 1 + 1) (by omega) (by omega) (by omega) _ ?_ 4 0 _ _ _ _ _ _ rfl (arr_W (by rw [upd_ne _ _ (by omega), upd_ne _ _ (by omega)]; exact upd_same _ _ _)) (arr_W (by rw [upd_ne _ _ (by omega)]; exact upd_same _ _ _)) ((arr_0 (upd_same _ _ _)).ext fun j hj => by simp) (fun _ _ => rfl) (((hf.new).new).new)
  intro h' x0 x1 x2 x3 x5 x7 x8 x9 ho hk hf'
  simp only [core1, execOp, opd, nth]
  rw [opv_rd (ho.all ti25 rfl rfl)]
  rw [range4]
  simp only [core1, execOp, opd, ofValue, putT, put, nth, bor, binInt, shiftB, intOp, gt_iff_lt, decide_true]
  refine opv_all4 ho ti25 rfl fun bb hbb => ?_
  simp only [core1, fgr, execOp, opd, putT, put, nth, forgetL, true_and, wp_pure, wp_rd (hbb.all ti25 rfl rfl), range4, pick4]
  obtain ⟨r1, r2⟩ := add_res ha hb
  refine ⟨?_, fun j hj => ?_⟩
  · rw [r2]
    exact congrArg (fun v => AVal.tup [v, _]) r1
  · rw [upd_ne _ _ (by omega), hk j (by omega)]
    simp (disch := omega) only [upd_ne]
/- Differences and order of numbers of four words. -/
def cyS (a b : Nat) : Nat → Nat
  | 0 => 0
  | j + 1 => subC (wd a j) (wd b j) (cyS a b j)
def dgS (a b j : Nat) : Nat := subD (wd a j) (wd b j) (cyS a b j)
theorem cyS_le (a b : Nat) : ∀ j, cyS a b j ≤ 1 := by
  intro j
  cases j with
  | zero => exact Nat.zero_le _
  | succ j => exact subC_le _ _ _
theorem sub_step {x y c : Nat} (hx : x < 18446744073709551616) (hy : y < 18446744073709551616) (hc : c ≤ 1) : subD x y c + y + c = x + subC x y c * 18446744073709551616 := by
  unfold subD subC
  split <;> omega
theorem sub_res {a b : Nat} (ha : a < b256) (hb : b < b256) : AVal.agg [.int .u64 (dgS a b 0 : Nat), .int .u64 (dgS a b 1 : Nat), .int .u64 (dgS a b 2 : Nat), .int .u64 (dgS a b 3 : Nat)] = W ((a + b256 - b) % b256) ∧ decide (0 < ((cyS a b 4 : Nat) : Int)) = decide (a < b) := by
  have e0 : dgS a b 0 + wd b 0 + 0 = wd a 0 + cyS a b 1 * 18446744073709551616 := sub_step (c := 0) (wd_lt _ _) (wd_lt _ _) (Nat.zero_le 1)
  have e1 : dgS a b 1 + wd b 1 + cyS a b 1 = wd a 1 + cyS a b 2 * 18446744073709551616 := sub_step (wd_lt _ _) (wd_lt _ _) (cyS_le a b 1)
  have e2 : dgS a b 2 + wd b 2 + cyS a b 2 = wd a 2 + cyS a b 3 * 18446744073709551616 := sub_step (wd_lt _ _) (wd_lt _ _) (cyS_le a b 2)
  have e3 : dgS a b 3 + wd b 3 + cyS a b 3 = wd a 3 + cyS a b 4 * 18446744073709551616 := sub_step (wd_lt _ _) (wd_lt _ _) (cyS_le a b 3)
  have h1 : of4 (dgS a b 0) (dgS a b 1) (dgS a b 2) (dgS a b 3) + of4 (wd b 0) (wd b 1) (wd b 2) (wd b 3) = of4 (wd a 0) (wd a 1) (wd a 2) (wd a 3) + cyS a b 4 * b256 := by
    unfold of4 b256
    omega
  rw [of4_wd ha, of4_wd hb] at h1
  have h2 : of4 (dgS a b 0) (dgS a b 1) (dgS a b 2) (dgS a b 3) < b256 := of4_lt (subD_lt _ _ _) (subD_lt _ _ _) (subD_lt _ _ _) (subD_lt _ _ _)
  have h3 := cyS_le a b 4
  have hB : b256 = 115792089237316195423570985008687907853269984665640564039457584007913129639936 := rfl
  rw [hB] at h1 h2 ha hb ⊢
  refine ⟨W_eq (by omega) (subD_lt _ _ _) (subD_lt _ _ _) (subD_lt _ _ _) (subD_lt _ _ _), ?_⟩
  by_cases hc : cyS a b 4 = 0
  · rw [decide_eq_false (by omega), decide_eq_false (by rw [hc] at h1; omega)]
  · have : cyS a b 4 = 1 := by omega
    rw [decide_eq_true (by omega), decide_eq_true (by rw [this] at h1; omega)]
theorem loop18 (Q : Post0) (ks : List Kf) (a b i2 i3 i4 n : Nat) (d2 : i2 ≠ i4) (d3 : i3 ≠ i4) (b4 : i4 < n) (h0 : Hp)
    (hq : ∀ (h : Hp) (x0 x1 x2 x3 x5 x7 x8 x9 : AVal), Arr .u64 h i4 4 (fun j => (dgS a b j : Nat)) → (∀ j, j ≠ i4 → h j = h0 j) → Free h n → Kont env 18 none Q ks (.exit 0) (x0 :: x1 :: x2 :: x3 :: .ptr i4 0 :: x5 :: .int .u64 (cyS a b 4 : Nat) :: x7 :: x8 :: x9 :: AVal.junk :: AVal.junk :: AVal.junk :: AVal.junk :: AVal.junk :: AVal.junk :: AVal.junk :: AVal.junk :: AVal.junk :: AVal.junk :: AVal.junk :: AVal.junk :: AVal.junk :: AVal.junk :: AVal.junk :: AVal.junk :: AVal.junk :: AVal.junk :: []) h n) :
    ∀ (k i : Nat) (h : Hp) (x0 x1 x5 x7 x9 : AVal), i + k = 4 → Arr .u64 h i2 4 (fun j => (wd a j : Nat)) → Arr .u64 h i3 4 (fun j => (wd b j : Nat)) → Arr .u64 h i4 4 (fun j => if j < i then (dgS a b j : Nat) else 0) → (∀ j, j ≠ i4 → h j = h0 j) → Free h n →
    Run env 18 none Q (.loop lp18_0) ks (x0 :: x1 :: .ptr i2 0 :: .ptr i3 0 :: .ptr i4 0 :: x5 :: .int .u64 (cyS a b i : Nat) :: x7 :: .int .i64 (i : Nat) :: x9 :: AVal.junk :: AVal.junk :: AVal.junk :: AVal.junk :: AVal.junk :: AVal.junk :: AVal.junk :: AVal.junk :: AVal.junk :: AVal.junk :: AVal.junk :: AVal.junk :: AVal.junk :: AVal.junk :: AVal.junk :: AVal.junk :: AVal.junk :: AVal.junk :: []) h n := by
  intro k
  induction k with
  | zero =>
    intro i h x0 x1 x5 x7 x9 hi ha hb ho hk hf
    have : i = 4 := by omega
    subst this
    have hc : ¬ ((4 : Nat) : Int) < 4 := by decide
    rw [run_loop]
    simp only [lp18_0, loopsOf, Try.f18, Option.getD_some, core1, fgr, execOp, opd, ofValue, putT, put, nth, forgetL, bor, binInt, shiftB, intOp, List.nil_append, List.append_nil, Int.cast_ofNat_Int, Int.reduceLT, decide_true, decide_false, List.getD_cons_zero]
    exact hq h _ _ _ _ _ _ _ _ (ho.ext fun j hj => if_pos hj) hk hf
  | succ k ih =>
    intro i h x0 x1 x5 x7 x9 hi ha hb ho hk hf
    have h4 : i < 4 := by omega
    have hc : ((i : Nat) : Int) < 4 := by omega
    have hw : IntKind.i64.wrap (((i : Nat) : Int) + 1) = ((i + 1 : Nat) : Int) := by rw [w64 (by omega) (by omega)]; omega
    rw [run_loop]
    simp only [lp18_0, loopsOf, Try.f18, Option.getD_some, core1, fgr, execOp, opd, ofValue, putT, put, nth, forgetL, bor, binInt, shiftB, intOp, List.nil_append, List.append_nil, decide_true, List.getD_cons_zero, hc]
    refine run_draw.2 ⟨rfl, ?_⟩
    simp only [fe_cons, fev_pure, execOp, opd, putT, put, nth, Nat.reduceAdd, Nat.zero_add]
    rw [fev_rd (arr_idx t25 s23 rfl h4)]
    simp only [fe_cons, execOp, opd, putT, put, nth, Nat.reduceAdd]
    rw [fev_rd (ha.load ti23 rfl h4)]
    simp only [fe_cons, fev_pure, execOp, opd, putT, put, nth, Nat.reduceAdd]
    rw [fev_rd (arr_idx t25 s23 rfl h4)]
    simp only [fe_cons, execOp, opd, putT, put, nth, Nat.reduceAdd]
    rw [fev_rd (hb.load ti23 rfl h4)]
    simp only [fe_cons, fev_ob, fev_pure, hkr, execOp, opd, opds, putT, put, nth, doCall, callV_func, extract, getO, List.getElem?_cons_succ, List.getElem?_cons_zero, List.nil_append, List.append_nil, Nat.reduceAdd, true_and, sub_eq (cyS_le a b i)]
    rw [fev_rd (arr_idx t25 s23 rfl h4)]
    simp only [fe_cons, execOp, opd, putT, put, nth, Nat.reduceAdd]
    refine fev_arr ho hf b4 ti23 rfl h4 fun bb rr ww ho2 => ?_
    simp only [fe_nil, fe_cons, fev_pure, core1, fgr, execOp, opd, ofValue, putT, put, nth, forgetL, bor, binInt, shiftB, intOp, wrapI, Nat.reduceAdd, decide_true]
    rw [hw]
    refine ⟨(by (try simp (disch := omega) only [fine, List.all_cons, List.all_nil, clash_pl, clash_pr, clash_rr, Bool.not_false, Bool.true_or, Bool.and_true, Bool.true_and]); repeat' (first | rfl | exact (Bool.or_eq_true _ _).mpr (.inr rfl) | refine (Bool.and_eq_true _ _).mpr ⟨?_, ?_⟩)), ?_⟩
    refine ih (i + 1) _ _ _ _ _ _ (by omega) (ha.upd d2) (hb.upd d3) (arr_set ho2 rfl) (fun j hj => by rw [upd_ne _ _ hj]; exact hk j hj) (hf.upd b4)
theorem f18 (a b : Nat) (h : Hp) (n : Nat) (ha : a < b256) (hb : b < b256) (hf : Free h n) : Wp (callI env (evalW env) 18 [W a, W b]) h n fun v' h' n' => v' = .tup [W ((a + b256 - b) % b256), .bool (decide (a < b))] ∧ Old h h' n := by
  refine wp_callI ff18 fi18 ?_
  simp (disch := omega) only [fu18, Try.f18, Option.getD_some, List.replicate, core1, tyr, fgr, execOp, opd, ofValue, putT, put, nth, forgetL, zeroOf, cel, alloc, doAlloc, newRow, ended, resultOf, oneOrTup, List.cons_append, List.nil_append, List.length_cons, List.length_nil, Nat.reduceAdd, Nat.reduceSub, Nat.zero_add, List.length_cons, List.length_nil, W]
  refine loop18 _ _ a b n (n + 1) (n + 1 + 1) (n + 1 + 1 + 1) (by omega) (by omega) (by omega) _ ?_ 4 0 _ _ _ _ _ _ rfl (arr_W (by rw [upd_ne _ _ (by omega), upd_ne _ _ (by omega)]; exact upd_same _ _ _)) (arr_W (by rw [upd_ne _ _ (by omega)]; exact upd_same _ _ _)) ((arr_0 (upd_same _ _ _)).ext fun j hj => by simp) (fun _ _ => rfl) (((hf.new).new).new)
  intro h' x0 x1 x2 x3 x5 x7 x8 x9 ho hk hf'
  simp only [core1, execOp, opd, nth]
  rw [opv_rd (ho.all ti25 rfl rfl)]
  rw [range4]
  simp only [core1, execOp, opd, ofValue, putT, put, nth, bor, binInt, shiftB, intOp, gt_iff_lt, decide_true]
  refine opv_all4 ho ti25 rfl fun bb hbb => ?_
  simp only [core1, fgr, execOp, opd, putT, put, nth, forgetL, true_and, wp_pure, wp_rd (hbb.all ti25 rfl rfl), range4, pick4]
  obtain ⟨r1, r2⟩ := sub_res ha hb
  refine ⟨?_, fun j hj => ?_⟩
  · rw [r2]
    exact congrArg (fun v => AVal.tup [v, _]) r1
  · rw [upd_ne _ _ (by omega), hk j (by omega)]
    simp (disch := omega) only [upd_ne]
theorem t23 : und env 23 = M.pure (.int .u64) := rfl
theorem equal_int {E : Env} {d : Nat} {t : TypeId} {k : IntKind} {a b : Int} (hu : und E t = M.pure (.int k)) : equal E (d + 1) t (.int k a) (.int k b) = M.pure (a == b) := by
  rw [equal, hu, bind_pure]
  simp only [decide_true]
theorem equal_arr {E : Env} {d : Nat} {t e : TypeId} {n : Nat} {x y : AVal} (hu : und E t = M.pure (.array n e)) (hq : eqAt E E.eqs t = true) : equal E (d + 1) t x y = aggK (fun xs => aggK (fun ys => (sizeOf E e).bind fun n' => allM (fun i => (part E e xs (i * n')).bind fun a => (part E e ys (i * n')).bind fun b => equal E d e a b) (List.range n)) y) x := by
  conv => lhs; unfold equal
  rw [hu]
  simp only [bind_pure, hq]
theorem eq_W {a b : Nat} (ha : a < b256) (hb : b < b256) : equalTop env 25 (W a) (W b) = M.pure (decide (a = b)) := by
  have hq : eqAt env env.eqs 25 = true := rfl
  have h0 : equalTop env 25 (W a) (W b) = equal env (98 + 1 + 1) 25 (W a) (W b) := rfl
  have hr : List.range 4 = [0, 1, 2, 3] := rfl
  rw [h0, equal_arr t25 hq]
  simp only [W, aggK, s23, bind_pure, hr, allM, part, ti23, aggB, Nat.zero_mul, Nat.mul_one, getO, List.getElem?_cons_zero, List.getElem?_cons_succ, equal_int t23, Bool.and_true]
  refine congrArg M.pure ?_
  by_cases e : a = b
  · subst e; simp
  · rw [decide_eq_false e, Bool.eq_false_iff]
    intro hh
    simp only [Bool.and_eq_true, beq_iff_eq, Int.natCast_inj] at hh
    exact e (wd_inj ha hb hh.1 hh.2.1 hh.2.2.1 hh.2.2.2)
theorem eq_agg {a b : Nat} (ha : a < b256) (hb : b < b256) : equalTop env 25 (.agg [.int .u64 (wd a 0 : Nat), .int .u64 (wd a 1 : Nat), .int .u64 (wd a 2 : Nat), .int .u64 (wd a 3 : Nat)]) (.agg [.int .u64 (wd b 0 : Nat), .int .u64 (wd b 1 : Nat), .int .u64 (wd b 2 : Nat), .int .u64 (wd b 3 : Nat)]) = M.pure (decide (a = b)) := eq_W ha hb
theorem eq_agg0 {a : Nat} (ha : a < b256) : equalTop env 25 (.agg [.int .u64 (wd a 0 : Nat), .int .u64 (wd a 1 : Nat), .int .u64 (wd a 2 : Nat), .int .u64 (wd a 3 : Nat)]) (.agg [.int .u64 0, .int .u64 0, .int .u64 0, .int .u64 0]) = M.pure (decide (a = 0)) := eq_W (b := 0) ha (by decide)
theorem f39 (a : Nat) (h : Hp) (n : Nat) (ha : a < b256) : Wp (callI env (evalW env) 39 [W a]) h n fun v' h' n' => v' = .bool (decide (a = 0)) ∧ Old h h' n := by
  refine wp_callI ff39 fi39 ?_
  simp (disch := omega) only [fu39, Try.f39, Option.getD_some, List.replicate, core1, tyr, fgr, execOp, opd, ofValue, ops2, putT, put, nth, forgetL, sizeOf, bor, binOther, readCells, cellsOf, aggB, cel, alloc, newRow, getO, ended, resultOf, oneOrTup, rowK, List.cons_append, List.nil_append, List.length_cons, List.length_nil, Nat.reduceAdd, Nat.reduceSub, true_and, Nat.zero_add, wp_pure, memr, build, fill, List.take_succ_cons, List.take_zero, List.drop_zero, Nat.ble, Cont.size, Cont.sub, upd_same, Option.some.injEq, exists_eq_left', true_and, List.length_cons, List.length_nil, W, build, eq_agg0 ha]
  exact ((Old.refl _ _).upd (Nat.le_refl _))
theorem f17 (a b : Nat) (h : Hp) (n : Nat) (ha : a < b256) (hb : b < b256) (hf : Free h n) : Wp (callI env (evalW env) 17 [W a, W b]) h n fun v' h' n' => v' = .int .i64 (if a = b then 0 else if a < b then -1 else 1) ∧ Old h h' n := by
  refine wp_callI ff17 fi17 ?_
  have o1 : ∀ x y, Old h (upd (upd h n x) (n + 1) y) n := fun x y => ((Old.refl _ _).upd (Nat.le_refl _)).upd (by omega)
  by_cases e : a = b
  · subst e
    simp (disch := omega) only [fu17, Try.f17, Option.getD_some, List.replicate, core1, tyr, fgr, execOp, opd, ofValue, putT, put, nth, forgetL, bor, binOther, readCells, cellsOf, aggB, cel, alloc, newRow, ended, resultOf, oneOrTup, rowK, List.cons_append, List.nil_append, List.length_cons, List.length_nil, Nat.reduceAdd, Nat.reduceSub, ↓reduceIte, Int.reduceNeg, decide_true, true_and, Nat.zero_add, wp_pure, memr, List.take_succ_cons, List.take_zero, List.drop_zero, Nat.ble, Cont.size, Cont.sub, upd_same, upd_ne, Option.some.injEq, exists_eq_left', true_and, List.length_cons, List.length_nil, W, eq_agg ha hb]
    exact o1 _ _
  · simp (disch := omega) only [fu17, Try.f17, Option.getD_some, List.replicate, core1, tyr, fgr, hkr, execOp, opd, opds, ofValue, putT, put, nth, forgetL, doCall, callV_func, bor, binOther, readCells, cellsOf, aggB, cel, alloc, newRow, ended, resultOf, oneOrTup, rowK, List.cons_append, List.nil_append, List.append_nil, List.length_cons, List.length_nil, Nat.reduceAdd, Nat.reduceSub, ↓reduceIte, Int.reduceNeg, decide_false, true_and, Nat.zero_add, wp_pure, memr, List.take_succ_cons, List.take_zero, List.drop_zero, Nat.ble, Cont.size, Cont.sub, upd_same, upd_ne, Option.some.injEq, exists_eq_left', true_and, List.length_cons, List.length_nil, W, eq_agg ha hb, e]
    refine opv_callf (hf.new).new (f18 a b _ (n + 1 + 1) ha hb (hf.new).new) fun v0 h1 n1 hn1 hf1 ⟨e1, o2⟩ => ?_
    subst e1
    have o3 : ∀ x y, Old h (upd (upd h1 n1 x) n1 y) n := fun x y => ((((o1 _ _).trans o2 (by omega))).upd (by omega)).upd (by omega)
    by_cases l : a < b
    · simp (disch := omega) only [core1, tyr, fgr, execOp, opd, ofValue, putT, put, nth, forgetL, zeroOf, cel, alloc, doAlloc, newRow, extract, getO, rowK, List.getElem?_cons_succ, List.getElem?_cons_zero, List.length_cons, List.length_nil, Nat.reduceAdd, ↓reduceIte, Int.reduceNeg, not_false_eq_true, decide_true, Bool.and_true, true_and, Nat.zero_add, reduceCtorEq, memr, Nat.ble, writeCells, setAll, Cont.size, Cont.set, upd_same, List.all_cons, List.all_nil, Option.some.injEq, exists_eq_left', ne_eq, true_and, List.length_cons, List.length_nil, W, l]
      exact o3 _ _
    · simp (disch := omega) only [core1, tyr, fgr, execOp, opd, ofValue, putT, put, nth, forgetL, zeroOf, cel, alloc, doAlloc, newRow, extract, getO, rowK, List.getElem?_cons_succ, List.getElem?_cons_zero, List.length_cons, List.length_nil, Nat.reduceAdd, ↓reduceIte, Int.reduceNeg, not_false_eq_true, decide_false, Bool.and_true, true_and, Nat.zero_add, reduceCtorEq, memr, Nat.ble, writeCells, setAll, Cont.size, Cont.set, upd_same, List.all_cons, List.all_nil, Option.some.injEq, exists_eq_left', ne_eq, true_and, List.length_cons, List.length_nil, W, l]
      exact o3 _ _
/- The other word; products of words. -/
theorem f40 (h : Hp) (n : Nat) (a : Nat) : Wp (callI env (evalW env) 40 [.int .u64 (a : Nat)]) h n fun v' h' n' => v' = .bool (decide (1 ≤ a) && decide (a ≤ 1099511627776)) ∧ h' = h ∧ n' = n := by
  refine wp_callI ff40 fi40 ?_
  by_cases e1 : (1 : Int) ≤ (a : Nat)
  · by_cases e2 : ((a : Nat) : Int) ≤ 1099511627776
    · simp only [fu40, Try.f40, Option.getD_some, List.replicate, core1, fgr, execOp, opd, ofValue, putT, put, nth, forgetL, bor, binInt, shiftB, intOp, doPick, branch, ended, resultOf, oneOrTup, List.getElem?_cons_succ, List.getElem?_cons_zero, List.cons_append, List.nil_append, List.length_cons, List.length_nil, Nat.reduceSub, ge_iff_le, decide_true, and_true, true_and, and_self, Nat.zero_add, wp_pure, e1, e2]
      rw [decide_eq_true (show 1 ≤ a by omega), decide_eq_true (show a ≤ 1099511627776 by omega)]; rfl
    · simp only [fu40, Try.f40, Option.getD_some, List.replicate, core1, fgr, execOp, opd, ofValue, putT, put, nth, forgetL, bor, binInt, shiftB, intOp, doPick, branch, ended, resultOf, oneOrTup, List.getElem?_cons_succ, List.getElem?_cons_zero, List.cons_append, List.nil_append, List.length_cons, List.length_nil, Nat.reduceSub, ge_iff_le, decide_true, decide_false, and_true, true_and, and_self, Nat.zero_add, wp_pure, e1, e2]
      rw [decide_eq_false (show ¬ a ≤ 1099511627776 by omega)]; simp
  · simp only [fu40, Try.f40, Option.getD_some, List.replicate, core1, fgr, execOp, opd, ofValue, putT, put, nth, forgetL, bor, binInt, shiftB, intOp, doPick, branch, ended, resultOf, oneOrTup, List.getElem?_cons_succ, List.getElem?_cons_zero, List.cons_append, List.nil_append, List.length_cons, List.length_nil, Nat.reduceSub, ge_iff_le, decide_true, decide_false, and_true, true_and, and_self, Nat.zero_add, wp_pure, e1]
    rw [decide_eq_false (show ¬ 1 ≤ a by omega)]; simp
theorem f56 (a b : Nat) (h : Hp) (n : Nat) (ha : a < 18446744073709551616) (hb : b < 18446744073709551616) : Wp (callI env (evalW env) 56 [.int .u64 (a : Nat), .int .u64 (b : Nat)]) h n fun v' h' n' => v' = .tup [.int .u64 (a * b / 18446744073709551616 : Nat), .int .u64 (a * b % 18446744073709551616 : Nat)] ∧ h' = h ∧ n' = n := by
  refine wp_callI ff56 fi56 ?_
  simp (disch := omega) only [fu56, Try.f56, Option.getD_some, List.replicate, core1, fgr, execOp, opd, ofValue, putT, put, nth, forgetL, bor, binInt, shiftB, shiftOp, intOp, wrapI, ended, resultOf, oneOrTup, List.cons_append, List.nil_append, List.length_cons, List.length_nil, Nat.reduceAdd, Nat.reduceSub, Int.reduceLE, decide_true, and_true, true_and, and_self, Nat.zero_add, wp_pure, umask32, ushr32, uwrap_mul, uwrap_add]
  have := mul_halves ha hb
  simp only at this
  rw [this]
/- Products of numbers of four words. -/
theorem t89 : und env 89 = M.pure (.array 8 23) := rfl
/-- A row of a product: what stands there, and the carry. -/
def mulI (a b i : Nat) (O : Nat → Nat) : Nat → (Nat → Nat) × Nat
  | 0 => (O, 0)
  | k + 1 => (fun x => if x = i + k then (wd a i * wd b k + (mulI a b i O k).1 (i + k) + (mulI a b i O k).2) % 18446744073709551616 else (mulI a b i O k).1 x, (wd a i * wd b k + (mulI a b i O k).1 (i + k) + (mulI a b i O k).2) / 18446744073709551616)
def mulO (a b : Nat) : Nat → Nat → Nat
  | 0 => fun _ => 0
  | i + 1 => fun x => if x = i + 4 then (mulI a b i (mulO a b i) 4).2 else (mulI a b i (mulO a b i) 4).1 x
theorem mulI_lt {a b i : Nat} {O : Nat → Nat} (hO : ∀ x, O x < 18446744073709551616) : ∀ k, (∀ x, (mulI a b i O k).1 x < 18446744073709551616) ∧ (mulI a b i O k).2 < 18446744073709551616 := by
  intro k
  induction k with
  | zero => exact ⟨hO, show 0 < 18446744073709551616 by decide⟩
  | succ k ih =>
    obtain ⟨h1, h2⟩ := ih
    have h3 := h1 (i + k)
    have p : wd a i * wd b k ≤ 18446744073709551615 * 18446744073709551615 := Nat.mul_le_mul (Nat.le_of_lt_succ (wd_lt _ _)) (Nat.le_of_lt_succ (wd_lt _ _))
    refine ⟨fun x => ?_, ?_⟩
    · simp only [mulI]
      split
      · omega
      · exact h1 x
    · simp only [mulI]
      omega
theorem mulO_lt (a b : Nat) : ∀ i x, mulO a b i x < 18446744073709551616 := by
  intro i
  induction i with
  | zero => intro x; exact Nat.zero_lt_succ _
  | succ i ih =>
    intro x
    simp only [mulO]
    split
    · exact (mulI_lt ih 4).2
    · exact (mulI_lt ih 4).1 x
theorem mul_step {p o cy : Nat} (hp : p ≤ 18446744073709551615 * 18446744073709551615) (ho : o < 18446744073709551616) (hc : cy < 18446744073709551616) :
    addD (addD (p % 18446744073709551616) o 0) cy 0 = (p + o + cy) % 18446744073709551616 ∧
    ((p / 18446744073709551616 + addC (p % 18446744073709551616) o 0) % 18446744073709551616 + addC (addD (p % 18446744073709551616) o 0) cy 0) % 18446744073709551616 = (p + o + cy) / 18446744073709551616 := by
  unfold addD addC
  omega
theorem loop28b (Q : Post0) (ks : List Kf) (a b i i2 i3 i6 n : Nat) (y4 y5 : AVal) (hi : i < 4) (d2 : i2 ≠ i6) (d3 : i3 ≠ i6) (b6 : i6 < n) (h0 : Hp) (O : Nat → Nat) (hO : ∀ x, O x < 18446744073709551616)
    (hq : ∀ (h : Hp) (x0 x1 x9 x10 x11 x12 x14 x16 x17 : AVal), Arr .u64 h i6 8 (fun x => ((mulI a b i O 4).1 x : Nat)) → (∀ j, j ≠ i6 → h j = h0 j) → Free h n → Kont env 28 none Q ks (.exit 2) (x0 :: x1 :: .ptr i2 0 :: .ptr i3 0 :: y4 :: y5 :: .ptr i6 0 :: .int .i64 (i : Nat) :: .int .u64 ((mulI a b i O 4).2 : Nat) :: x9 :: x10 :: x11 :: x12 :: .int .i64 (i : Nat) :: x14 :: AVal.junk :: x16 :: x17 :: AVal.junk :: AVal.junk :: AVal.junk :: AVal.junk :: AVal.junk :: AVal.junk :: AVal.junk :: AVal.junk :: AVal.junk :: AVal.junk :: AVal.junk :: AVal.junk :: AVal.junk :: AVal.junk :: AVal.junk :: AVal.junk :: AVal.junk :: AVal.junk :: AVal.junk :: AVal.junk :: AVal.junk :: AVal.junk :: AVal.junk :: AVal.junk :: AVal.junk :: AVal.junk :: AVal.junk :: AVal.junk :: AVal.junk :: AVal.junk :: AVal.junk :: AVal.junk :: AVal.junk :: AVal.junk :: AVal.junk :: AVal.junk :: AVal.junk :: AVal.junk :: AVal.junk :: AVal.junk :: AVal.junk :: AVal.junk :: AVal.junk :: AVal.junk :: AVal.junk :: AVal.junk :: AVal.junk :: AVal.junk :: AVal.junk :: AVal.junk :: AVal.junk :: []) h n) :
    ∀ (k' k : Nat) (h : Hp) (x0 x1 x9 x10 x11 x12 x14 x17 : AVal), k + k' = 4 → Arr .u64 h i2 4 (fun j => (wd a j : Nat)) → Arr .u64 h i3 4 (fun j => (wd b j : Nat)) → Arr .u64 h i6 8 (fun x => ((mulI a b i O k).1 x : Nat)) → (∀ j, j ≠ i6 → h j = h0 j) → Free h n →
    Run env 28 none Q (.loop lp28_1) ks (x0 :: x1 :: .ptr i2 0 :: .ptr i3 0 :: y4 :: y5 :: .ptr i6 0 :: .int .i64 (i : Nat) :: .int .u64 ((mulI a b i O k).2 : Nat) :: x9 :: x10 :: x11 :: x12 :: .int .i64 (i : Nat) :: x14 :: AVal.junk :: .int .i64 (k : Nat) :: x17 :: AVal.junk :: AVal.junk :: AVal.junk :: AVal.junk :: AVal.junk :: AVal.junk :: AVal.junk :: AVal.junk :: AVal.junk :: AVal.junk :: AVal.junk :: AVal.junk :: AVal.junk :: AVal.junk :: AVal.junk :: AVal.junk :: AVal.junk :: AVal.junk :: AVal.junk :: AVal.junk :: AVal.junk :: AVal.junk :: AVal.junk :: AVal.junk :: AVal.junk :: AVal.junk :: AVal.junk :: AVal.junk :: AVal.junk :: AVal.junk :: AVal.junk :: AVal.junk :: AVal.junk :: AVal.junk :: AVal.junk :: AVal.junk :: AVal.junk :: AVal.junk :: AVal.junk :: AVal.junk :: AVal.junk :: AVal.junk :: AVal.junk :: AVal.junk :: AVal.junk :: AVal.junk :: AVal.junk :: AVal.junk :: AVal.junk :: AVal.junk :: AVal.junk :: []) h n := by
  intro k'
  induction k' with
  | zero =>
    intro k h x0 x1 x9 x10 x11 x12 x14 x17 hk ha hb ho hh hf
    have : k = 4 := by omega
    subst this
    have hc : ¬ ((4 : Nat) : Int) < 4 := by decide
    rw [run_loop]
    simp only [lp28_1, loopsOf, Try.f28, Option.getD_some, core1, fgr, execOp, opd, ofValue, putT, put, nth, forgetL, bor, binInt, shiftB, intOp, List.append_eq, List.cons_append, List.nil_append, List.append_nil, Int.cast_ofNat_Int, Int.reduceLT, decide_true, decide_false, List.getD_cons_zero, List.getD_cons_succ]
    exact hq h _ _ _ _ _ _ _ _ _ ho hh hf
  | succ k' ih =>
    intro k h x0 x1 x9 x10 x11 x12 x14 x17 hk ha hb ho hh hf
    have h4 : k < 4 := by omega
    have hc : ((k : Nat) : Int) < 4 := by omega
    have hw : IntKind.i64.wrap (((k : Nat) : Int) + 1) = ((k + 1 : Nat) : Int) := by rw [w64 (by omega) (by omega)]; omega
    have hw2 : IntKind.i64.wrap (((i : Nat) : Int) + ((k : Nat) : Int)) = ((i + k : Nat) : Int) := by rw [w64 (by omega) (by omega)]; omega
    obtain ⟨l1, l2⟩ := mulI_lt (a := a) (b := b) (i := i) hO k
    have p : wd a i * wd b k ≤ 18446744073709551615 * 18446744073709551615 := Nat.mul_le_mul (Nat.le_of_lt_succ (wd_lt _ _)) (Nat.le_of_lt_succ (wd_lt _ _))
    obtain ⟨m1, m2⟩ := mul_step p (l1 (i + k)) l2
    rw [run_loop]
    simp only [lp28_1, loopsOf, Try.f28, Option.getD_some, core1, fgr, execOp, opd, ofValue, putT, put, nth, forgetL, bor, binInt, shiftB, intOp, List.append_eq, List.cons_append, List.nil_append, List.append_nil, decide_true, List.getD_cons_zero, List.getD_cons_succ, hc]
    refine run_draw.2 ⟨rfl, ?_⟩
    simp only [fe_cons, fev_pure, execOp, opd, putT, put, nth, Nat.zero_add]
    rw [fev_rd (arr_idx t25 s23 rfl hi)]
    simp only [fe_cons, execOp, opd, putT, put, nth, Nat.reduceAdd]
    rw [fev_rd (ha.load ti23 rfl hi)]
    simp only [fe_cons, fev_pure, execOp, opd, putT, put, nth, Nat.reduceAdd]
    rw [fev_rd (arr_idx t25 s23 rfl h4)]
    simp only [fe_cons, execOp, opd, putT, put, nth, Nat.reduceAdd]
    rw [fev_rd (hb.load ti23 rfl h4)]
    simp only [fe_cons, hkr, execOp, opd, opds, putT, put, nth, doCall, callV_func, List.nil_append, List.append_nil, Nat.reduceAdd]
    refine fev_any hf (f56 (wd a i) (wd b k) h n (wd_lt _ _) (wd_lt _ _)) fun v0 h1 n1 rr ww hn1 hf1 ⟨e1, e2, e3⟩ => ?_
    subst e1; subst e2; subst e3
    simp only [fe_nil, fe_cons, fev_pure, core1, fgr, execOp, opd, ofValue, putT, put, nth, forgetL, bor, binInt, shiftB, intOp, wrapI, extract, getO, List.getElem?_cons_succ, List.getElem?_cons_zero, Nat.reduceAdd, decide_true]
    refine ⟨(by (try simp (disch := omega) only [fine, List.all_cons, List.all_nil, clash_pl, clash_pr, clash_rr, Bool.not_false, Bool.true_or, Bool.and_true, Bool.true_and]); repeat' (first | rfl | exact (Bool.or_eq_true _ _).mpr (.inr rfl) | refine (Bool.and_eq_true _ _).mpr ⟨?_, ?_⟩)), ?_⟩
    simp only [hw2]
    rw [opv_rd (arr_idx t89 s23 rfl (show i + k < 8 by omega))]
    simp only [core1, execOp, opd, putT, put, nth]
    rw [opv_rd (ho.load ti23 rfl (show i + k < 8 by omega))]
    simp only [core1, fgr, hkr, execOp, opd, opds, ofValue, putT, put, nth, forgetL, doCall, callV_func, bor, binInt, shiftB, intOp, wrapI, extract, getO, List.getElem?_cons_succ, List.getElem?_cons_zero, List.nil_append, List.append_nil, decide_true, true_and, add_eq0, hw2, uwrap_add]
    rw [opv_rd (arr_idx t89 s23 rfl (show i + k < 8 by omega))]
    simp only [core1, execOp, opd, putT, put, nth]
    refine opv_arr ho ti23 rfl (show i + k < 8 by omega) fun bb ho2 => ?_
    simp only [core1, fgr, execOp, opd, ofValue, putT, put, nth, forgetL, bor, binInt, shiftB, intOp, wrapI, decide_true, uwrap_add, hw]
    rw [m2]
    rw [m1] at ho2
    refine ih (k + 1) _ _ _ _ _ _ _ _ _ (by omega) (ha.upd d2) (hb.upd d3) (ho2.ext fun x hx => ?_) (fun j hj => by rw [upd_ne _ _ hj]; exact hh j hj) (hf1.upd b6)
    simp only [mulI]
    split <;> rfl
theorem loop28a (Q : Post0) (ks : List Kf) (a b i2 i3 i6 n : Nat) (y4 y5 : AVal) (d2 : i2 ≠ i6) (d3 : i3 ≠ i6) (b6 : i6 < n) (h0 : Hp)
    (hq : ∀ (h : Hp) (x0 x1 x2 x3 x7 x8 x9 x10 x11 x12 x13 x14 x16 x17 : AVal), Arr .u64 h i6 8 (fun x => (mulO a b 4 x : Nat)) → (∀ j, j ≠ i6 → h j = h0 j) → Free h n → Kont env 28 none Q ks (.exit 0) (x0 :: x1 :: x2 :: x3 :: y4 :: y5 :: .ptr i6 0 :: x7 :: x8 :: x9 :: x10 :: x11 :: x12 :: x13 :: x14 :: AVal.junk :: x16 :: x17 :: AVal.junk :: AVal.junk :: AVal.junk :: AVal.junk :: AVal.junk :: AVal.junk :: AVal.junk :: AVal.junk :: AVal.junk :: AVal.junk :: AVal.junk :: AVal.junk :: AVal.junk :: AVal.junk :: AVal.junk :: AVal.junk :: AVal.junk :: AVal.junk :: AVal.junk :: AVal.junk :: AVal.junk :: AVal.junk :: AVal.junk :: AVal.junk :: AVal.junk :: AVal.junk :: AVal.junk :: AVal.junk :: AVal.junk :: AVal.junk :: AVal.junk :: AVal.junk :: AVal.junk :: AVal.junk :: AVal.junk :: AVal.junk :: AVal.junk :: AVal.junk :: AVal.junk :: AVal.junk :: AVal.junk :: AVal.junk :: AVal.junk :: AVal.junk :: AVal.junk :: AVal.junk :: AVal.junk :: AVal.junk :: AVal.junk :: AVal.junk :: AVal.junk :: []) h n) :
    ∀ (k i : Nat) (h : Hp) (x0 x1 x7 x8 x9 x10 x11 x12 x14 x16 x17 : AVal), i + k = 4 → Arr .u64 h i2 4 (fun j => (wd a j : Nat)) → Arr .u64 h i3 4 (fun j => (wd b j : Nat)) → Arr .u64 h i6 8 (fun x => (mulO a b i x : Nat)) → (∀ j, j ≠ i6 → h j = h0 j) → Free h n →
    Run env 28 none Q (.loop lp28_0) ks (x0 :: x1 :: .ptr i2 0 :: .ptr i3 0 :: y4 :: y5 :: .ptr i6 0 :: x7 :: x8 :: x9 :: x10 :: x11 :: x12 :: .int .i64 (i : Nat) :: x14 :: AVal.junk :: x16 :: x17 :: AVal.junk :: AVal.junk :: AVal.junk :: AVal.junk :: AVal.junk :: AVal.junk :: AVal.junk :: AVal.junk :: AVal.junk :: AVal.junk :: AVal.junk :: AVal.junk :: AVal.junk :: AVal.junk :: AVal.junk :: AVal.junk :: AVal.junk :: AVal.junk :: AVal.junk :: AVal.junk :: AVal.junk :: AVal.junk :: AVal.junk :: AVal.junk :: AVal.junk :: AVal.junk :: AVal.junk :: AVal.junk :: AVal.junk :: AVal.junk :: AVal.junk :: AVal.junk :: AVal.junk :: AVal.junk :: AVal.junk :: AVal.junk :: AVal.junk :: AVal.junk :: AVal.junk :: AVal.junk :: AVal.junk :: AVal.junk :: AVal.junk :: AVal.junk :: AVal.junk :: AVal.junk :: AVal.junk :: AVal.junk :: AVal.junk :: AVal.junk :: AVal.junk :: []) h n := by
  intro k
  induction k with
  | zero =>
    intro i h x0 x1 x7 x8 x9 x10 x11 x12 x14 x16 x17 hk ha hb ho hh hf
    have : i = 4 := by omega
    subst this
    have hc : ¬ ((4 : Nat) : Int) < 4 := by decide
    rw [run_loop]
    simp only [lp28_0, loopsOf, Try.f28, Option.getD_some, core1, fgr, execOp, opd, ofValue, putT, put, nth, forgetL, bor, binInt, shiftB, intOp, List.append_eq, List.cons_append, List.nil_append, List.append_nil, Int.cast_ofNat_Int, Int.reduceLT, decide_true, decide_false, List.getD_cons_zero]
    exact hq h _ _ _ _ _ _ _ _ _ _ _ _ _ _ ho hh hf
  | succ k ih =>
    intro i h x0 x1 x7 x8 x9 x10 x11 x12 x14 x16 x17 hk ha hb ho hh hf
    have h4 : i < 4 := by omega
    have hc : ((i : Nat) : Int) < 4 := by omega
    have hw : IntKind.i64.wrap (((i : Nat) : Int) + 1) = ((i + 1 : Nat) : Int) := by rw [w64 (by omega) (by omega)]; omega
    have hw4 : IntKind.i64.wrap (((i : Nat) : Int) + 4) = ((i + 4 : Nat) : Int) := by rw [w64 (by omega) (by omega)]; omega
    rw [run_loop]
    simp only [lp28_0, loopsOf, Try.f28, Option.getD_some, core1, fgr, execOp, opd, ofValue, putT, put, nth, forgetL, bor, binInt, shiftB, intOp, List.append_eq, List.cons_append, List.nil_append, List.append_nil, decide_true, List.getD_cons_zero, hc]
    refine loop28b _ _ a b i i2 i3 i6 n y4 y5 h4 d2 d3 b6 h (mulO a b i) (mulO_lt a b i) ?_ 4 0 h _ _ _ _ _ _ _ _ rfl ha hb ho (fun _ _ => rfl) hf
    intro h1 x0 x1 x9 x10 x11 x12 x14 x16 x17 ho1 hh1 hf1
    simp only [core1, execOp, opd, ofValue, putT, put, nth, bor, binInt, shiftB, intOp, wrapI, decide_true, hw4]
    rw [opv_rd (arr_idx t89 s23 rfl (show i + 4 < 8 by omega))]
    simp only [core1, execOp, opd, putT, put, nth]
    refine opv_arr ho1 ti23 rfl (show i + 4 < 8 by omega) fun bb ho2 => ?_
    simp only [core1, fgr, execOp, opd, ofValue, putT, put, nth, forgetL, bor, binInt, shiftB, intOp, wrapI, decide_true, hw]
    refine ih (i + 1) _ _ _ _ _ _ _ _ _ _ _ _ (by omega) ((ha.keep (hh1 _ d2)).upd d2) ((hb.keep (hh1 _ d3)).upd d3) (ho2.ext fun x hx => ?_) (fun j hj => by rw [upd_ne _ _ hj, hh1 j hj]; exact hh j hj) (hf1.upd b6)
    simp only [mulO]
    split <;> rfl
/-- One row. -/
theorem row_sum {a b i : Nat} {O : Nat → Nat} (hb : b < b256) : (mulI a b i O 4).1 i + (mulI a b i O 4).1 (i + 1) * 18446744073709551616 + (mulI a b i O 4).1 (i + 2) * 340282366920938463463374607431768211456 + (mulI a b i O 4).1 (i + 3) * 6277101735386680763835789423207666416102355444464034512896 + (mulI a b i O 4).2 * b256
    = wd a i * b + (O i + O (i + 1) * 18446744073709551616 + O (i + 2) * 340282366920938463463374607431768211456 + O (i + 3) * 6277101735386680763835789423207666416102355444464034512896) := by
  have hb' := of4_wd hb
  unfold of4 at hb'
  have hm : wd a i * b = wd a i * wd b 0 + wd a i * wd b 1 * 18446744073709551616 + wd a i * wd b 2 * 340282366920938463463374607431768211456 + wd a i * wd b 3 * 6277101735386680763835789423207666416102355444464034512896 := by
    conv => lhs; rw [← hb']
    simp only [Nat.mul_add, Nat.mul_assoc]
  rw [hm]
  simp only [mulI, Nat.add_zero, Nat.add_left_cancel_iff, Nat.reduceEqDiff, reduceCtorEq, Nat.left_eq_add, ↓reduceIte, show ¬ i + 1 = i by omega, show ¬ i + 2 = i by omega, show ¬ i + 3 = i by omega]
  generalize wd a i * wd b 0 = p0
  generalize wd a i * wd b 1 = p1
  generalize wd a i * wd b 2 = p2
  generalize wd a i * wd b 3 = p3
  generalize O i = o0
  generalize O (i + 1) = o1
  generalize O (i + 2) = o2
  generalize O (i + 3) = o3
  unfold b256
  omega
theorem mulI_out {a b i : Nat} {O : Nat → Nat} {x : Nat} (hx : x < i ∨ i + 4 ≤ x) : (mulI a b i O 4).1 x = O x := by
  simp only [mulI]
  rw [if_neg (by omega), if_neg (by omega), if_neg (by omega), if_neg (by omega)]
theorem mulO_hi {a b i : Nat} : mulO a b (i + 1) (i + 4) = (mulI a b i (mulO a b i) 4).2 := by simp only [mulO, ↓reduceIte]
theorem mulO_in {a b i x : Nat} (hx : x ≠ i + 4) : mulO a b (i + 1) x = (mulI a b i (mulO a b i) 4).1 x := by simp only [mulO, if_neg hx]
theorem mulO_out {a b i x : Nat} (hx : x < i) : mulO a b (i + 1) x = mulO a b i x := by rw [mulO_in (by omega), mulI_out (.inl hx)]
theorem row_O {a b i : Nat} (hb : b < b256) : mulO a b (i + 1) i + mulO a b (i + 1) (i + 1) * 18446744073709551616 + mulO a b (i + 1) (i + 2) * 340282366920938463463374607431768211456 + mulO a b (i + 1) (i + 3) * 6277101735386680763835789423207666416102355444464034512896 + mulO a b (i + 1) (i + 4) * b256
    = wd a i * b + (mulO a b i i + mulO a b i (i + 1) * 18446744073709551616 + mulO a b i (i + 2) * 340282366920938463463374607431768211456 + mulO a b i (i + 3) * 6277101735386680763835789423207666416102355444464034512896) := by
  rw [mulO_hi, mulO_in (by omega), mulO_in (by omega), mulO_in (by omega), mulO_in (by omega)]
  exact row_sum hb
theorem mul_linC {q0 q1 q2 q3 m10 m21 m32 m43 X1 X2 X3 X4 : Nat} (r0 : m10 + X1 * 18446744073709551616 = q0) (r1 : m21 + X2 * 18446744073709551616 = q1 + X1) (r2 : m32 + X3 * 18446744073709551616 = q2 + X2) (r3 : m43 + X4 * 18446744073709551616 = q3 + X3) :
    m10 + m21 * 18446744073709551616 + m32 * 340282366920938463463374607431768211456 + m43 * 6277101735386680763835789423207666416102355444464034512896 + X4 * 115792089237316195423570985008687907853269984665640564039457584007913129639936 = q0 + q1 * 18446744073709551616 + q2 * 340282366920938463463374607431768211456 + q3 * 6277101735386680763835789423207666416102355444464034512896 := by
  omega
theorem mul_linD {q m o1 o2 o3 o4 X : Nat} (r : m + o1 * 18446744073709551616 + o2 * 340282366920938463463374607431768211456 + o3 * 6277101735386680763835789423207666416102355444464034512896 + o4 * b256 = q + X) : m + (o1 + o2 * 18446744073709551616 + o3 * 340282366920938463463374607431768211456 + o4 * 6277101735386680763835789423207666416102355444464034512896) * 18446744073709551616 = q + X := by
  rw [← r]
  unfold b256
  omega
theorem mul_lin {q0 q1 q2 q3 m10 m11 m12 m13 m14 m21 m22 m23 m24 m25 m32 m33 m34 m35 m36 m43 m44 m45 m46 m47 : Nat}
    (r0 : m10 + m11 * 18446744073709551616 + m12 * 340282366920938463463374607431768211456 + m13 * 6277101735386680763835789423207666416102355444464034512896 + m14 * b256 = q0 + (0 + 0 * 18446744073709551616 + 0 * 340282366920938463463374607431768211456 + 0 * 6277101735386680763835789423207666416102355444464034512896))
    (r1 : m21 + m22 * 18446744073709551616 + m23 * 340282366920938463463374607431768211456 + m24 * 6277101735386680763835789423207666416102355444464034512896 + m25 * b256 = q1 + (m11 + m12 * 18446744073709551616 + m13 * 340282366920938463463374607431768211456 + m14 * 6277101735386680763835789423207666416102355444464034512896))
    (r2 : m32 + m33 * 18446744073709551616 + m34 * 340282366920938463463374607431768211456 + m35 * 6277101735386680763835789423207666416102355444464034512896 + m36 * b256 = q2 + (m22 + m23 * 18446744073709551616 + m24 * 340282366920938463463374607431768211456 + m25 * 6277101735386680763835789423207666416102355444464034512896))
    (r3 : m43 + m44 * 18446744073709551616 + m45 * 340282366920938463463374607431768211456 + m46 * 6277101735386680763835789423207666416102355444464034512896 + m47 * b256 = q3 + (m33 + m34 * 18446744073709551616 + m35 * 340282366920938463463374607431768211456 + m36 * 6277101735386680763835789423207666416102355444464034512896)) :
    of4 m10 m21 m32 m43 + of4 m44 m45 m46 m47 * b256 = q0 + q1 * 18446744073709551616 + q2 * 340282366920938463463374607431768211456 + q3 * 6277101735386680763835789423207666416102355444464034512896 := by
  exact mul_linC (by have := mul_linD r0; simpa using this) (mul_linD r1) (mul_linD r2) (mul_linD r3)
theorem mul_all {a b : Nat} (ha : a < b256) (hb : b < b256) : of4 (mulO a b 4 0) (mulO a b 4 1) (mulO a b 4 2) (mulO a b 4 3) + of4 (mulO a b 4 4) (mulO a b 4 5) (mulO a b 4 6) (mulO a b 4 7) * b256 = a * b := by
  have r0 := row_O (a := a) (i := 0) hb
  have r1 := row_O (a := a) (i := 1) hb
  have r2 := row_O (a := a) (i := 2) hb
  have r3 := row_O (a := a) (i := 3) hb
  simp only [Nat.zero_add, Nat.reduceAdd, show ∀ x, mulO a b 0 x = 0 from fun _ => rfl] at r0 r1 r2 r3
  have k40 : mulO a b 4 0 = mulO a b 1 0 := by rw [mulO_out (i := 3) (by omega), mulO_out (i := 2) (by omega), mulO_out (i := 1) (by omega)]
  have k41 : mulO a b 4 1 = mulO a b 2 1 := by rw [mulO_out (i := 3) (by omega), mulO_out (i := 2) (by omega)]
  have k42 : mulO a b 4 2 = mulO a b 3 2 := by rw [mulO_out (i := 3) (by omega)]
  have hab : a * b = wd a 0 * b + wd a 1 * b * 18446744073709551616 + wd a 2 * b * 340282366920938463463374607431768211456 + wd a 3 * b * 6277101735386680763835789423207666416102355444464034512896 := by
    have ha' := of4_wd ha
    unfold of4 at ha'
    conv => lhs; rw [← ha']
    grind
  rw [hab, k40, k41, k42]
  exact mul_lin r0 r1 r2 r3
/- Products of numbers of four words: the whole. -/
theorem f28 (a b : Nat) (h : Hp) (n : Nat) (ha : a < b256) (hb : b < b256) (hf : Free h n) : Wp (callI env (evalW env) 28 [W a, W b]) h n fun v' h' n' => v' = .tup [W (a * b % b256), W (a * b / b256)] ∧ Old h h' n := by
  refine wp_callI ff28 fi28 ?_
  simp (disch := omega) only [fu28, Try.f28, Option.getD_some, List.replicate, core1, tyr, fgr, execOp, opd, ofValue, putT, put, nth, forgetL, zeroOf, cel, alloc, doAlloc, newRow, ended, resultOf, oneOrTup, List.append_eq, List.cons_append, List.nil_append, List.length_cons, List.length_nil, Nat.reduceAdd, Nat.reduceSub, Nat.zero_add, List.length_cons, List.length_nil, W]
  refine loop28a _ _ a b n (n + 1) (n + 1 + 1 + 1 + 1) (n + 1 + 1 + 1 + 1 + 1) _ _ (by omega) (by omega) (by omega) _ ?_ 4 0 _ _ _ _ _ _ _ _ _ _ _ _ rfl (arr_W (by simp (disch := omega) only [upd_ne]; exact upd_same _ _ _)) (arr_W (by simp (disch := omega) only [upd_ne]; exact upd_same _ _ _)) ⟨_, _, upd_same _ _ _, rfl, fun j hj => by
    match j, hj with
    | 0, _ => rfl
    | 1, _ => rfl
    | 2, _ => rfl
    | 3, _ => rfl
    | 4, _ => rfl
    | 5, _ => rfl
    | 6, _ => rfl
    | 7, _ => rfl⟩ (fun _ _ => rfl) (((((hf.new).new).new).new).new)
  intro h' x0 x1 x2 x3 x7 x8 x9 x10 x11 x12 x13 x14 x16 x17 ho hk hf'
  simp only [core1]
  refine run_draw.2 ⟨rfl, ?_⟩
  simp only [fe_cons, execOp, opd, opt, nth]
  rw [fev_rd (arr_slice (l := 0) (hi := 4) t25 s23 (fun k => .inl (bound_none 0 k (Nat.zero_le _))) (bound_none 4 4 (Nat.le_refl _)) (by omega))]
  simp only [fe_cons, execOp, opd, opt, ofValue, putT, put, nth, Nat.reduceSub, Nat.zero_add]
  rw [fev_rd (arr_slice (l := 0) (hi := 4) t89 s23 (fun k => .inl (bound_none 0 k (Nat.zero_le _))) (bound_lit (z := 4) 4 8 8 rfl (by omega)) (by omega))]
  simp only [fe_cons, execOp, opd, opds, putT, put, nth, doCall, builtin, two2, bCopy, Nat.reduceAdd, Nat.reduceSub]
  have h4 : Arr .u64 h' (n + 1 + 1) 4 (fun _ => 0) := arr_0 ((hk _ (by omega)).trans (by simp (disch := omega) only [upd_ne]; exact upd_same _ _ _))
  have h5 : Arr .u64 h' (n + 1 + 1 + 1) 4 (fun _ => 0) := arr_0 ((hk _ (by omega)).trans (by simp (disch := omega) only [upd_ne]; exact upd_same _ _ _))
  refine fev_any hf' (Q1 := fun v2 h2 n2 => n2 = n + 1 + 1 + 1 + 1 + 1 ∧ ∃ b2, h2 = upd h' (n + 1 + 1) (some b2) ∧ Arr .u64 h2 (n + 1 + 1) 4 (fun x => if x < 4 then (mulO a b 4 (0 + x) : Nat) else 0)) (wp_copy_arr h4 ho rfl s23 (by omega) (by omega) (by omega) fun b2 hb2 => ⟨rfl, b2, rfl, hb2⟩) fun v2 h2 n2 rr ww hn2 hf2 hh2 => ?_
  obtain ⟨rfl, b2, rfl, ha2⟩ := hh2
  simp only [fe_nil, core1, fgr, putT, put, forgetL, Nat.reduceAdd]
  refine ⟨(by (try simp (disch := omega) only [fine, List.all_cons, List.all_nil, clash_pl, clash_pr, Bool.not_false, Bool.true_or, Bool.and_true]); repeat' (first | rfl | exact (Bool.or_eq_true _ _).mpr (.inr rfl) | refine (Bool.and_eq_true _ _).mpr ⟨?_, ?_⟩)), ?_⟩
  refine run_draw.2 ⟨rfl, ?_⟩
  simp only [fe_cons, execOp, opd, opt, nth]
  rw [fev_rd (arr_slice (l := 0) (hi := 4) t25 s23 (fun k => .inl (bound_none 0 k (Nat.zero_le _))) (bound_none 4 4 (Nat.le_refl _)) (by omega))]
  simp only [fe_cons, execOp, opd, opt, ofValue, putT, put, nth, Nat.reduceSub, Nat.zero_add]
  rw [fev_rd (arr_slice (l := 4) (hi := 8) t89 s23 (fun k => by
    by_cases hk4 : 4 ≤ k
    · exact .inl (bound_lit (z := 4) 4 0 k rfl hk4)
    · exact .inr hk4) (bound_none 8 8 (Nat.le_refl _)) (by omega))]
  simp only [fe_cons, execOp, opd, opds, putT, put, nth, doCall, builtin, two2, bCopy, Nat.reduceAdd, Nat.reduceSub]
  refine fev_any hf2 (Q1 := fun v3 h3 n3 => n3 = n + 1 + 1 + 1 + 1 + 1 ∧ ∃ b3, h3 = upd (upd h' (n + 1 + 1) (some b2)) (n + 1 + 1 + 1) (some b3) ∧ Arr .u64 h3 (n + 1 + 1 + 1) 4 (fun x => if x < 4 then (mulO a b 4 (4 + x) : Nat) else 0)) (wp_copy_arr (h5.upd (by omega)) (ho.upd (by omega)) rfl s23 (by omega) (by omega) (by omega) fun b3 hb3 => ⟨rfl, b3, rfl, hb3⟩) fun v3 h3 n3 rr ww hn3 hf3 hh3 => ?_
  obtain ⟨rfl, b3, rfl, ha3⟩ := hh3
  simp only [fe_nil, core1, fgr, execOp, opd, putT, put, nth, forgetL, Nat.reduceAdd]
  refine ⟨(by (try simp (disch := omega) only [fine, List.all_cons, List.all_nil, clash_pl, clash_pr, Bool.not_false, Bool.true_or, Bool.and_true]); repeat' (first | rfl | exact (Bool.or_eq_true _ _).mpr (.inr rfl) | refine (Bool.and_eq_true _ _).mpr ⟨?_, ?_⟩)), ?_⟩
  have ha2' := ha2.upd (i := n + 1 + 1 + 1) (b := some b3) (by omega)
  rw [opv_rd (ha2'.all ti25 rfl rfl), range4]
  simp only [core1, execOp, opd, putT, put, nth, Nat.zero_add, Nat.add_zero]
  rw [opv_rd (ha3.all ti25 rfl rfl), range4]
  simp only [core1, execOp, opd, putT, put, nth, Nat.reduceAdd, Nat.add_zero]
  refine opv_all4 ha2' ti25 rfl fun b4 ha4 => ?_
  simp only [core1, execOp, opd, putT, nth]
  refine opv_all4 (ha3.upd (by omega)) ti25 rfl fun b5 ha5 => ?_
  simp only [core1, fgr, putT, nth, forgetL, true_and, wp_pure, wp_rd ((ha4.upd (i := n + 1 + 1 + 1) (b := some b5) (by omega)).all ti25 rfl rfl), wp_rd (ha5.all ti25 rfl rfl), range4, pick4]
  have hm := mul_all ha hb
  have hl := of4_lt (mulO_lt a b 4 0) (mulO_lt a b 4 1) (mulO_lt a b 4 2) (mulO_lt a b 4 3)
  have e1 : a * b % b256 = of4 (mulO a b 4 0) (mulO a b 4 1) (mulO a b 4 2) (mulO a b 4 3) := by
    rw [← hm, Nat.add_mul_mod_self_right, Nat.mod_eq_of_lt hl]
  have e2 : a * b / b256 = of4 (mulO a b 4 4) (mulO a b 4 5) (mulO a b 4 6) (mulO a b 4 7) := by
    rw [← hm, Nat.add_mul_div_right _ _ (by decide), Nat.div_eq_of_lt hl, Nat.zero_add]
  refine ⟨?_, fun j hj => ?_⟩
  · have w1 := W_eq e1 (mulO_lt a b 4 0) (mulO_lt a b 4 1) (mulO_lt a b 4 2) (mulO_lt a b 4 3)
    have w2 := W_eq e2 (mulO_lt a b 4 4) (mulO_lt a b 4 5) (mulO_lt a b 4 6) (mulO_lt a b 4 7)
    simp only [show (0 : Nat) < 4 from by decide, show (1 : Nat) < 4 from by decide, show (2 : Nat) < 4 from by decide, show (3 : Nat) < 4 from by decide, ↓reduceIte]
    rw [w1, w2]; rfl
  · rw [upd_ne _ _ (by omega), upd_ne _ _ (by omega), upd_ne _ _ (by omega), upd_ne _ _ (by omega), hk j (by omega)]
    simp (disch := omega) only [upd_ne]
/- Words the other way round, and moved. -/
theorem loop38 (Q : Post0) (ks : List Kf) (a i1 n : Nat) (y2 : AVal) (b1 : i1 < n) (h0 : Hp)
    (hq : ∀ (h : Hp) (x0 x3 x4 x5 : AVal), Arr .u64 h i1 4 (fun j => (18446744073709551615 - wd a j : Nat)) → (∀ j, j ≠ i1 → h j = h0 j) → Free h n → Kont env 38 none Q ks (.exit 0) (x0 :: .ptr i1 0 :: y2 :: x3 :: x4 :: x5 :: AVal.junk :: AVal.junk :: AVal.junk :: AVal.junk :: AVal.junk :: AVal.junk :: AVal.junk :: AVal.junk :: AVal.junk :: []) h n) :
    ∀ (k i : Nat) (h : Hp) (x0 x3 x5 : AVal), i + k = 4 → Arr .u64 h i1 4 (fun j => if j < i then (18446744073709551615 - wd a j : Nat) else (wd a j : Nat)) → (∀ j, j ≠ i1 → h j = h0 j) → Free h n →
    Run env 38 none Q (.loop lp38_0) ks (x0 :: .ptr i1 0 :: y2 :: x3 :: .int .i64 (i : Nat) :: x5 :: AVal.junk :: AVal.junk :: AVal.junk :: AVal.junk :: AVal.junk :: AVal.junk :: AVal.junk :: AVal.junk :: AVal.junk :: []) h n := by
  intro k
  induction k with
  | zero =>
    intro i h x0 x3 x5 hi ha hk hf
    have : i = 4 := by omega
    subst this
    have hc : ¬ ((4 : Nat) : Int) < 4 := by decide
    rw [run_loop]
    simp only [lp38_0, loopsOf, Try.f38, Option.getD_some, core1, fgr, execOp, opd, ofValue, putT, put, nth, forgetL, bor, binInt, shiftB, intOp, List.nil_append, List.append_nil, Int.cast_ofNat_Int, Int.reduceLT, decide_true, decide_false, List.getD_cons_zero]
    exact hq h _ _ _ _ (ha.ext fun j hj => if_pos hj) hk hf
  | succ k ih =>
    intro i h x0 x3 x5 hi ha hk hf
    have h4 : i < 4 := by omega
    have hc : ((i : Nat) : Int) < 4 := by omega
    have hw : IntKind.i64.wrap (((i : Nat) : Int) + 1) = ((i + 1 : Nat) : Int) := by rw [w64 (by omega) (by omega)]; omega
    rw [run_loop]
    simp only [lp38_0, loopsOf, Try.f38, Option.getD_some, core1, fgr, execOp, opd, ofValue, putT, put, nth, forgetL, bor, binInt, shiftB, intOp, List.nil_append, List.append_nil, decide_true, List.getD_cons_zero, hc]
    rw [opv_rd (arr_idx t25 s23 rfl h4)]
    simp only [core1, execOp, opd, putT, put, nth]
    rw [opv_rd (ha.load ti23 rfl h4)]
    have e0 : (if i < i then ((18446744073709551615 - wd a i : Nat) : Int) else ((wd a i : Nat) : Int)) = ((wd a i : Nat) : Int) := if_neg (Nat.lt_irrefl i)
    have hm : IntKind.u64.max = 18446744073709551615 := rfl
    have hs : IntKind.u64.signed = false := rfl
    simp only [core1, execOp, opd, putT, put, nth, intOp, wrapI, unOp, ↓reduceIte, e0, hm, hs, Bool.false_eq_true, unot (wd_lt a i)]
    rw [opv_rd (arr_idx t25 s23 rfl h4)]
    simp only [core1, execOp, opd, putT, put, nth]
    refine opv_arr ha ti23 rfl h4 fun bb hb => ?_
    simp only [core1, fgr, execOp, opd, ofValue, putT, put, nth, forgetL, bor, binInt, shiftB, intOp, wrapI, decide_true, hw]
    refine ih (i + 1) _ _ _ _ (by omega) (hb.ext fun j hj => ?_) (fun j hj => by rw [upd_ne _ _ hj]; exact hk j hj) (hf.upd b1)
    by_cases e : j = i
    · subst e; simp
    · by_cases e2 : j < i
      · simp only [if_neg e, if_pos e2, if_pos (show j < i + 1 by omega)]
      · simp only [if_neg e, if_neg e2, if_neg (show ¬ j < i + 1 by omega)]
theorem f38 (a : Nat) (h : Hp) (n : Nat) (ha : a < b256) (hf : Free h n) : Wp (callI env (evalW env) 38 [W a]) h n fun v' h' n' => v' = W (b256 - 1 - a) ∧ Old h h' n := by
  refine wp_callI ff38 fi38 ?_
  simp (disch := omega) only [fu38, Try.f38, Option.getD_some, List.replicate, core1, tyr, fgr, execOp, opd, ofValue, putT, put, nth, forgetL, zeroOf, cel, alloc, doAlloc, newRow, ended, resultOf, oneOrTup, List.cons_append, List.nil_append, List.length_cons, List.length_nil, Nat.reduceSub, Nat.zero_add, List.length_cons, List.length_nil, W]
  refine loop38 _ _ a n (n + 1 + 1) _ (by omega) _ ?_ 4 0 _ _ _ _ rfl ((arr_W (by rw [upd_ne _ _ (by omega)]; exact upd_same _ _ _)).ext fun j hj => by simp) (fun _ _ => rfl) ((hf.new).new)
  intro h' x0 x3 x4 x5 ho hk hf'
  simp only [core1, execOp, opd, nth]
  rw [opv_rd (ho.all ti25 rfl rfl), range4]
  simp only [core1, execOp, opd, putT, put, nth]
  have h2 : Arr .u64 h' (n + 1) 4 (fun _ => 0) := arr_0 ((hk _ (by omega)).trans (upd_same _ _ _))
  refine opv_all4 h2 ti25 rfl fun bb hbb => ?_
  simp only [core1, fgr, putT, nth, forgetL, true_and, wp_pure, wp_rd (hbb.all ti25 rfl rfl), range4, pick4]
  refine ⟨W_eq ?_ (by omega) (by omega) (by omega) (by omega), fun j hj => ?_⟩
  · have h1 := of4_wd ha
    have l0 := wd_lt a 0
    have l1 := wd_lt a 1
    have l2 := wd_lt a 2
    have l3 := wd_lt a 3
    unfold of4 at h1 ⊢
    unfold b256
    omega
  · rw [upd_ne _ _ (by omega), hk j (by omega)]
    simp (disch := omega) only [upd_ne]
/-- What a word is moved left. -/
def shlW (a w r i : Nat) : Nat := if i < w then 0 else if i = w then wd a 0 * 2 ^ r % 18446744073709551616 else (wd a (i - w) * 2 ^ r % 18446744073709551616) ||| (wd a (i - w - 1) / 2 ^ (64 - r))
theorem shlW_eq {a w r i : Nat} (hr : r < 64) : wd (a * 2 ^ (64 * w + r)) i = shlW a w r i := by
  unfold shlW
  by_cases h1 : i < w
  · rw [if_pos h1, wd_left_lo _ _ _ _ h1]
  · rw [if_neg h1]
    by_cases h2 : i = w
    · subst h2
      rw [if_pos rfl, wd_left0]
    · rw [if_neg h2]
      obtain ⟨j, rfl⟩ : ∃ j, i = w + (j + 1) := ⟨i - w - 1, by omega⟩
      rw [wd_left _ _ _ _ hr, show w + (j + 1) - w = j + 1 by omega, Nat.add_sub_cancel]
theorem loop20 (Q : Post0) (ks : List Kf) (a w r i2 i5 n : Nat) (y4 : AVal) (hr : r < 64) (hw4 : w < 4) (d2 : i2 ≠ i5) (b5 : i5 < n) (h0 : Hp)
    (hq : ∀ (h : Hp) (x0 x1 x2 x6 x7 x8 x10 x13 x21 x35 : AVal), Arr .u64 h i5 4 (fun j => (shlW a w r j : Nat)) → (∀ j, j ≠ i5 → h j = h0 j) → Free h n → Kont env 20 none Q ks (.exit 0) (x0 :: x1 :: x2 :: AVal.junk :: y4 :: .ptr i5 0 :: x6 :: x7 :: x8 :: AVal.junk :: x10 :: AVal.junk :: AVal.junk :: x13 :: AVal.junk :: AVal.junk :: AVal.junk :: AVal.junk :: AVal.junk :: AVal.junk :: AVal.junk :: x21 :: AVal.junk :: AVal.junk :: AVal.junk :: AVal.junk :: AVal.junk :: AVal.junk :: AVal.junk :: AVal.junk :: AVal.junk :: AVal.junk :: AVal.junk :: AVal.junk :: AVal.junk :: x35 :: AVal.junk :: AVal.junk :: AVal.junk :: AVal.junk :: AVal.junk :: AVal.junk :: AVal.junk :: AVal.junk :: AVal.junk :: AVal.junk :: AVal.junk :: AVal.junk :: AVal.junk :: AVal.junk :: AVal.junk :: []) h n) :
    ∀ (k i : Nat) (h : Hp) (x0 x1 x10 x13 x21 x35 : AVal), i + k = 4 → w ≤ i → Arr .u64 h i2 4 (fun j => (wd a j : Nat)) → Arr .u64 h i5 4 (fun j => if j < i then (shlW a w r j : Nat) else 0) → (∀ j, j ≠ i5 → h j = h0 j) → Free h n →
    Run env 20 none Q (.loop lp20_0) ks (x0 :: x1 :: .ptr i2 0 :: AVal.junk :: y4 :: .ptr i5 0 :: .int .i64 (w : Nat) :: .int .i64 (r : Nat) :: .int .i64 (i : Nat) :: AVal.junk :: x10 :: AVal.junk :: AVal.junk :: x13 :: AVal.junk :: AVal.junk :: AVal.junk :: AVal.junk :: AVal.junk :: AVal.junk :: AVal.junk :: x21 :: AVal.junk :: AVal.junk :: AVal.junk :: AVal.junk :: AVal.junk :: AVal.junk :: AVal.junk :: AVal.junk :: AVal.junk :: AVal.junk :: AVal.junk :: AVal.junk :: AVal.junk :: x35 :: AVal.junk :: AVal.junk :: AVal.junk :: AVal.junk :: AVal.junk :: AVal.junk :: AVal.junk :: AVal.junk :: AVal.junk :: AVal.junk :: AVal.junk :: AVal.junk :: AVal.junk :: AVal.junk :: AVal.junk :: []) h n := by
  intro k
  induction k with
  | zero =>
    intro i h x0 x1 x10 x13 x21 x35 hi hwi ha ho hk hf
    have : i = 4 := by omega
    subst this
    have hc : ¬ ((4 : Nat) : Int) < 4 := by decide
    rw [run_loop]
    simp only [lp20_0, loopsOf, Try.f20, Option.getD_some, core1, fgr, execOp, opd, ofValue, putT, put, nth, forgetL, bor, binInt, shiftB, intOp, List.nil_append, List.append_nil, Int.cast_ofNat_Int, Int.reduceLT, decide_true, decide_false, List.getD_cons_zero]
    exact hq h _ _ _ _ _ _ _ _ _ _ (ho.ext fun j hj => if_pos hj) hk hf
  | succ k ih =>
    intro i h x0 x1 x10 x13 x21 x35 hi hwi ha ho hk hf
    have h4 : i < 4 := by omega
    have hiw : i - w < 4 := by omega
    have hc : ((i : Nat) : Int) < 4 := by omega
    have hw : IntKind.i64.wrap (((i : Nat) : Int) + 1) = ((i + 1 : Nat) : Int) := by rw [w64 (by omega) (by omega)]; omega
    have hs : IntKind.i64.wrap (((i : Nat) : Int) - ((w : Nat) : Int)) = ((i - w : Nat) : Int) := by rw [w64 (by omega) (by omega)]; omega
    have h0r : (0 : Int) ≤ ((r : Nat) : Int) := by omega
    have key : ∀ x : Nat, (if x < i + 1 then ((shlW a w r x : Nat) : Int) else 0) = if x = i then ((shlW a w r i : Nat) : Int) else if x < i then ((shlW a w r x : Nat) : Int) else 0 := fun x => by
      by_cases e : x = i
      · subst e; simp
      · by_cases e2 : x < i
        · rw [if_pos (by omega), if_neg e, if_pos e2]
        · rw [if_neg (by omega), if_neg e, if_neg e2]
    rw [run_loop]
    simp only [lp20_0, loopsOf, Try.f20, Option.getD_some, core1, fgr, execOp, opd, ofValue, putT, put, nth, forgetL, bor, binInt, shiftB, intOp, wrapI, List.nil_append, List.append_nil, decide_true, List.getD_cons_zero, hc, hs]
    rw [opv_rd (arr_idx t25 s23 rfl hiw)]
    simp only [core1, execOp, opd, putT, put, nth]
    rw [opv_rd (ha.load ti23 rfl hiw)]
    simp only [core1, execOp, opd, putT, put, nth, bor, binInt, shiftB, shiftOp, wrapI, decide_true, true_and, h0r, ushl _ r (by omega)]
    rw [opv_rd (arr_idx t25 s23 rfl h4)]
    simp only [core1, execOp, opd, putT, put, nth]
    refine opv_arr ho ti23 rfl h4 fun bb hb => ?_
    by_cases hgt : w < i
    · have hgt2 : ((w : Nat) : Int) < ((i : Nat) : Int) := by omega
      have hs1 : IntKind.i64.wrap (((i - w : Nat) : Int) - 1) = ((i - w - 1 : Nat) : Int) := by rw [w64 (by omega) (by omega)]; omega
      have hs2 : IntKind.i64.wrap (64 - ((r : Nat) : Int)) = ((64 - r : Nat) : Int) := by rw [w64 (by omega) (by omega)]; omega
      have h0r2 : (0 : Int) ≤ ((64 - r : Nat) : Int) := by omega
      have ha2 := ha.upd (i := i5) (b := some bb) d2
      simp only [core1, fgr, execOp, opd, putT, put, nth, forgetL, bor, binInt, shiftB, intOp, gt_iff_lt, decide_true, hgt2]
      refine run_draw.2 ⟨rfl, ?_⟩
      simp only [fe_cons, fev_pure, execOp, opd, putT, put, nth, Nat.zero_add]
      rw [fev_rd (arr_idx t25 s23 rfl h4)]
      simp only [fe_cons, execOp, opd, putT, put, nth, Nat.reduceAdd]
      rw [fev_rd (hb.load ti23 rfl h4)]
      simp only [fe_cons, fev_pure, execOp, opd, ofValue, putT, put, nth, bor, binInt, shiftB, intOp, wrapI, Nat.reduceAdd, ↓reduceIte, decide_true, hs, hs1]
      rw [fev_rd (arr_idx t25 s23 rfl (show i - w - 1 < 4 by omega))]
      simp only [fe_cons, execOp, opd, putT, put, nth, Nat.reduceAdd]
      rw [fev_rd (ha2.load ti23 rfl (show i - w - 1 < 4 by omega))]
      have hlt : wd a (i - w - 1) / 2 ^ (64 - r) < 18446744073709551616 := Nat.lt_of_le_of_lt (Nat.div_le_self _ _) (wd_lt _ _)
      simp only [fe_cons, fev_ob, fev_pure, execOp, opd, ofValue, putT, put, nth, bor, binInt, shiftB, shiftOp, intOp, wrapI, Nat.reduceAdd, decide_true, true_and, hs2, h0r2, ushr _ (64 - r) (by omega), uor (Nat.mod_lt _ (by decide)) hlt]
      rw [fev_rd (arr_idx t25 s23 rfl h4)]
      simp only [fe_cons, execOp, opd, putT, put, nth, Nat.reduceAdd]
      refine fev_arr hb (hf.upd b5) b5 ti23 rfl h4 fun bb2 rr ww hb2 => ?_
      simp only [fe_nil, core1, fgr, execOp, opd, ofValue, putT, put, nth, forgetL, bor, binInt, shiftB, intOp, wrapI, Nat.reduceAdd, decide_true]
      refine ⟨(by (try simp (disch := omega) only [fine, List.all_cons, List.all_nil, clash_pl, clash_pr, clash_rr, Bool.not_false, Bool.true_or, Bool.and_true, Bool.true_and]); repeat' (first | rfl | exact (Bool.or_eq_true _ _).mpr (.inr rfl) | refine (Bool.and_eq_true _ _).mpr ⟨?_, ?_⟩)), ?_⟩
      simp only [hw]
      refine ih (i + 1) _ _ _ _ _ _ _ (by omega) (by omega) (ha2.upd d2) (hb2.ext fun j hj => ?_) (fun j hj => by rw [upd_ne _ _ hj, upd_ne _ _ hj]; exact hk j hj) ((hf.upd b5).upd b5)
      rw [key]
      by_cases e : j = i
      · simp only [if_pos e]
        unfold shlW
        rw [if_neg (by omega), if_neg (by omega)]
      · simp only [if_neg e]
    · have hgt2 : ¬ ((w : Nat) : Int) < ((i : Nat) : Int) := by omega
      have hiw2 : i = w := by omega
      simp only [core1, fgr, execOp, opd, ofValue, putT, put, nth, forgetL, bor, binInt, shiftB, intOp, wrapI, gt_iff_lt, decide_true, decide_false, hgt2, hw]
      refine ih (i + 1) _ _ _ _ _ _ _ (by omega) (by omega) (ha.upd d2) (hb.ext fun j hj => ?_) (fun j hj => by rw [upd_ne _ _ hj]; exact hk j hj) (hf.upd b5)
      rw [key]
      by_cases e : j = i
      · simp only [if_pos e]
        unfold shlW
        rw [if_neg (by omega), if_pos hiw2, hiw2, Nat.sub_self]
      · simp only [if_neg e]
/- Numbers of four words, moved. -/
def leftV (a : Nat) (z : Int) : Nat := if z ≤ 0 then a else a * 2 ^ z.toNat % b256
theorem leftV_lt {a : Nat} {z : Int} (ha : a < b256) : leftV a z < b256 := by
  unfold leftV
  split
  · exact ha
  · exact Nat.mod_lt _ (by decide)
theorem big_pow (a m : Nat) (hm : 256 ≤ m) : a * 2 ^ m % b256 = 0 := by
  have : b256 = 2 ^ 256 := by decide
  rw [this, show m = 256 + (m - 256) by omega, Nat.pow_add, Nat.mul_comm (2 ^ 256), ← Nat.mul_assoc, Nat.mul_mod_left]
theorem f20 (a : Nat) (z : Int) (h : Hp) (n : Nat) (ha : a < b256) (hf : Free h n) : Wp (callI env (evalW env) 20 [W a, .int .i64 z]) h n fun v' h' n' => v' = W (leftV a z) ∧ Old h h' n := by
  refine wp_callI ff20 fi20 ?_
  by_cases h0 : z ≤ 0
  · have e : leftV a z = a := if_pos h0
    simp (disch := omega) only [fu20, Try.f20, Option.getD_some, List.replicate, core1, tyr, fgr, execOp, opd, ofValue, putT, put, nth, forgetL, zeroOf, bor, binInt, shiftB, intOp, readCells, cellsOf, aggB, cel, alloc, doAlloc, newRow, ended, resultOf, oneOrTup, rowK, List.cons_append, List.nil_append, List.length_cons, List.length_nil, Nat.reduceAdd, Nat.reduceSub, not_false_eq_true, decide_true, Bool.and_true, true_and, Nat.zero_add, wp_pure, reduceCtorEq, memr, List.take_succ_cons, List.take_zero, List.drop_zero, Nat.ble, writeCells, setAll, Cont.size, Cont.set, Cont.sub, upd_same, upd_ne, List.all_cons, List.all_nil, Option.some.injEq, exists_eq_left', ne_eq, true_and, List.length_cons, List.length_nil, W, h0, wp_get, wp_ob]
    rw [e]
    exact ⟨by trivial, fun j hj => by simp (disch := omega) only [upd_ne]⟩
  · obtain ⟨m, rfl⟩ := Int.eq_ofNat_of_zero_le (show 0 ≤ z by omega)
    have e : leftV a (m : Int) = a * 2 ^ m % b256 := by unfold leftV; rw [if_neg h0, Int.toNat_natCast]
    have h0' : ¬ ((m : Nat) : Int) ≤ 0 := h0
    rw [e]
    by_cases h1 : (256 : Int) ≤ ((m : Nat) : Int)
    · simp (disch := omega) only [fu20, Try.f20, Option.getD_some, List.replicate, core1, tyr, fgr, execOp, opd, ofValue, putT, put, nth, forgetL, zeroOf, bor, binInt, shiftB, intOp, readCells, cellsOf, aggB, cel, alloc, doAlloc, newRow, ended, resultOf, oneOrTup, rowK, List.cons_append, List.nil_append, List.length_cons, List.length_nil, Nat.reduceAdd, Nat.reduceSub, ge_iff_le, not_false_eq_true, decide_true, decide_false, Bool.and_true, true_and, Nat.zero_add, wp_pure, reduceCtorEq, memr, List.take_succ_cons, List.take_zero, List.drop_zero, Nat.ble, writeCells, setAll, Cont.size, Cont.set, Cont.sub, upd_same, upd_ne, List.all_cons, List.all_nil, Option.some.injEq, exists_eq_left', ne_eq, true_and, List.length_cons, List.length_nil, W, h0', h1, wp_get, wp_ob]
      rw [big_pow _ _ (by omega)]
      exact ⟨rfl, fun j hj => by simp (disch := omega) only [upd_ne]⟩
    · have hm : m < 256 := by omega
      have q1 : IntKind.i64.wrap (Int.tdiv ((m : Nat) : Int) 64) = ((m / 64 : Nat) : Int) := by rw [Int.tdiv_eq_ediv_of_nonneg (by omega), w64 (by omega) (by omega)]; omega
      have q2 : Int.tmod ((m : Nat) : Int) 64 = ((m % 64 : Nat) : Int) := by rw [Int.tmod_eq_emod_of_nonneg (by omega)]; omega
      simp (disch := omega) only [fu20, Try.f20, Option.getD_some, List.replicate, core1, tyr, fgr, execOp, opd, ofValue, putT, put, nth, forgetL, zeroOf, bor, binInt, shiftB, intOp, wrapI, cel, alloc, doAlloc, newRow, ended, resultOf, oneOrTup, List.cons_append, List.nil_append, List.length_cons, List.length_nil, Nat.reduceAdd, Nat.reduceSub, Int.reduceEq, ge_iff_le, not_false_eq_true, decide_true, decide_false, true_and, Nat.zero_add, ne_eq, true_and, List.length_cons, List.length_nil, W, h0', h1, q1, q2]
      refine loop20 _ _ a (m / 64) (m % 64) n (n + 1 + 1) (n + 1 + 1 + 1) _ (by omega) (by omega) (by omega) (by omega) _ ?_ (4 - m / 64) (m / 64) _ _ _ _ _ _ _ (by omega) (Nat.le_refl _) (arr_W (by simp (disch := omega) only [upd_ne]; exact upd_same _ _ _)) ((arr_0 (upd_same _ _ _)).ext fun j hj => ?_) (fun _ _ => rfl) (((hf.new).new).new)
      · intro h' x0 x1 x2 x6 x7 x8 x10 x13 x21 x35 ho hk hf'
        simp only [core1, execOp, opd, nth]
        rw [opv_rd (ho.all ti25 rfl rfl), range4]
        simp only [core1, execOp, opd, putT, put, nth]
        have h4 : Arr .u64 h' (n + 1) 4 (fun _ => 0) := arr_0 ((hk _ (by omega)).trans (by simp (disch := omega) only [upd_ne]; exact upd_same _ _ _))
        refine opv_all4 h4 ti25 rfl fun bb hbb => ?_
        simp only [core1, fgr, putT, nth, forgetL, true_and, wp_pure, wp_rd (hbb.all ti25 rfl rfl), range4, pick4]
        have hr : m % 64 < 64 := Nat.mod_lt _ (by decide)
        have hm64 : 64 * (m / 64) + m % 64 = m := Nat.div_add_mod m 64
        refine ⟨?_, fun j hj => ?_⟩
        · rw [wd_mod _ 0 (by decide), wd_mod _ 1 (by decide), wd_mod _ 2 (by decide), wd_mod _ 3 (by decide)]
          have q : ∀ i, wd (a * 2 ^ m) i = shlW a (m / 64) (m % 64) i := fun i => by
            have := shlW_eq (a := a) (w := m / 64) (i := i) hr
            rwa [hm64] at this
          rw [q, q, q, q]
        · rw [upd_ne _ _ (by omega), hk j (by omega)]
          simp (disch := omega) only [upd_ne]
      · by_cases hj2 : j < m / 64
        · rw [if_pos hj2]
          unfold shlW
          rw [if_pos hj2]; rfl
        · rw [if_neg hj2]
/- Numbers of four words, moved right. -/
theorem loop51 (Q : Post0) (ks : List Kf) (a w r i2 i5 n : Nat) (y4 : AVal) (ha' : a < b256) (hr : r < 64) (hw4 : w < 4) (d2 : i2 ≠ i5) (b5 : i5 < n) (h0 : Hp)
    (hq : ∀ (h : Hp) (x0 x1 x2 x6 x7 x8 x10 x13 x21 x35 : AVal), Arr .u64 h i5 4 (fun j => (wd (a / 2 ^ (64 * w + r)) j : Nat)) → (∀ j, j ≠ i5 → h j = h0 j) → Free h n → Kont env 51 none Q ks (.exit 0) (x0 :: x1 :: x2 :: AVal.junk :: y4 :: .ptr i5 0 :: x6 :: x7 :: x8 :: AVal.junk :: x10 :: AVal.junk :: AVal.junk :: x13 :: AVal.junk :: AVal.junk :: AVal.junk :: AVal.junk :: AVal.junk :: AVal.junk :: AVal.junk :: x21 :: AVal.junk :: AVal.junk :: AVal.junk :: AVal.junk :: AVal.junk :: AVal.junk :: AVal.junk :: AVal.junk :: AVal.junk :: AVal.junk :: AVal.junk :: AVal.junk :: AVal.junk :: x35 :: AVal.junk :: AVal.junk :: AVal.junk :: AVal.junk :: AVal.junk :: AVal.junk :: AVal.junk :: AVal.junk :: AVal.junk :: AVal.junk :: AVal.junk :: AVal.junk :: AVal.junk :: AVal.junk :: AVal.junk :: []) h n) :
    ∀ (k i : Nat) (h : Hp) (x0 x1 x10 x13 x21 x35 : AVal), i + k = 4 → w ≤ i → Arr .u64 h i2 4 (fun j => (wd a j : Nat)) → Arr .u64 h i5 4 (fun j => if j < i - w then (wd (a / 2 ^ (64 * w + r)) j : Nat) else 0) → (∀ j, j ≠ i5 → h j = h0 j) → Free h n →
    Run env 51 none Q (.loop lp51_0) ks (x0 :: x1 :: .ptr i2 0 :: AVal.junk :: y4 :: .ptr i5 0 :: .int .i64 (w : Nat) :: .int .i64 (r : Nat) :: .int .i64 (i : Nat) :: AVal.junk :: x10 :: AVal.junk :: AVal.junk :: x13 :: AVal.junk :: AVal.junk :: AVal.junk :: AVal.junk :: AVal.junk :: AVal.junk :: AVal.junk :: x21 :: AVal.junk :: AVal.junk :: AVal.junk :: AVal.junk :: AVal.junk :: AVal.junk :: AVal.junk :: AVal.junk :: AVal.junk :: AVal.junk :: AVal.junk :: AVal.junk :: AVal.junk :: x35 :: AVal.junk :: AVal.junk :: AVal.junk :: AVal.junk :: AVal.junk :: AVal.junk :: AVal.junk :: AVal.junk :: AVal.junk :: AVal.junk :: AVal.junk :: AVal.junk :: AVal.junk :: AVal.junk :: AVal.junk :: []) h n := by
  intro k
  induction k with
  | zero =>
    intro i h x0 x1 x10 x13 x21 x35 hi hwi ha ho hk hf
    have : i = 4 := by omega
    subst this
    have hc : ¬ ((4 : Nat) : Int) < 4 := by decide
    rw [run_loop]
    simp only [lp51_0, loopsOf, Try.f51, Option.getD_some, core1, fgr, execOp, opd, ofValue, putT, put, nth, forgetL, bor, binInt, shiftB, intOp, List.nil_append, List.append_nil, Int.cast_ofNat_Int, Int.reduceLT, decide_true, decide_false, List.getD_cons_zero]
    refine hq h _ _ _ _ _ _ _ _ _ _ (ho.ext fun j hj => ?_) hk hf
    by_cases e : j < 4 - w
    · rw [if_pos e]
    · rw [if_neg e, wd_right _ _ _ _ hr, wd_hi a (j + w) ha' (by omega), wd_hi a (j + w + 1) ha' (by omega)]; simp
  | succ k ih =>
    intro i h x0 x1 x10 x13 x21 x35 hi hwi ha ho hk hf
    have h4 : i < 4 := by omega
    have hiw : i - w < 4 := by omega
    have hc : ((i : Nat) : Int) < 4 := by omega
    have hw : IntKind.i64.wrap (((i : Nat) : Int) + 1) = ((i + 1 : Nat) : Int) := by rw [w64 (by omega) (by omega)]; omega
    have hs : IntKind.i64.wrap (((i : Nat) : Int) - ((w : Nat) : Int)) = ((i - w : Nat) : Int) := by rw [w64 (by omega) (by omega)]; omega
    have h0r : (0 : Int) ≤ ((r : Nat) : Int) := by omega
    have hri := wd_right a w r (i - w) hr
    rw [show i - w + w = i by omega] at hri
    have key : ∀ x : Nat, (if x < i + 1 - w then ((wd (a / 2 ^ (64 * w + r)) x : Nat) : Int) else 0) = if x = i - w then ((wd (a / 2 ^ (64 * w + r)) (i - w) : Nat) : Int) else if x < i - w then ((wd (a / 2 ^ (64 * w + r)) x : Nat) : Int) else 0 := fun x => by
      by_cases e : x = i - w
      · subst e; rw [if_pos (by omega), if_pos rfl]
      · by_cases e2 : x < i - w
        · rw [if_pos (by omega), if_neg e, if_pos e2]
        · rw [if_neg (by omega), if_neg e, if_neg e2]
    rw [run_loop]
    simp only [lp51_0, loopsOf, Try.f51, Option.getD_some, core1, fgr, execOp, opd, ofValue, putT, put, nth, forgetL, bor, binInt, shiftB, intOp, wrapI, List.nil_append, List.append_nil, decide_true, List.getD_cons_zero, hc, hs]
    rw [opv_rd (arr_idx t25 s23 rfl h4)]
    simp only [core1, execOp, opd, putT, put, nth]
    rw [opv_rd (ha.load ti23 rfl h4)]
    simp only [core1, execOp, opd, putT, put, nth, bor, binInt, shiftB, shiftOp, decide_true, true_and, h0r, ushr _ r (by omega)]
    rw [opv_rd (arr_idx t25 s23 rfl hiw)]
    simp only [core1, execOp, opd, putT, put, nth]
    refine opv_arr ho ti23 rfl hiw fun bb hb => ?_
    by_cases hgt : i + 1 < 4
    · have hgt2 : ((i + 1 : Nat) : Int) < 4 := by omega
      have hs2 : IntKind.i64.wrap (64 - ((r : Nat) : Int)) = ((64 - r : Nat) : Int) := by rw [w64 (by omega) (by omega)]; omega
      have h0r2 : (0 : Int) ≤ ((64 - r : Nat) : Int) := by omega
      have ha2 := ha.upd (i := i5) (b := some bb) d2
      simp only [core1, fgr, execOp, opd, ofValue, putT, put, nth, forgetL, bor, binInt, shiftB, intOp, wrapI, decide_true, hw, hgt2]
      refine run_draw.2 ⟨rfl, ?_⟩
      simp only [fe_cons, fev_pure, execOp, opd, putT, put, nth, bor, binInt, shiftB, intOp, wrapI, Nat.reduceAdd, decide_true, Nat.zero_add, hs]
      rw [fev_rd (arr_idx t25 s23 rfl hiw)]
      simp only [fe_cons, execOp, opd, putT, put, nth, Nat.reduceAdd]
      rw [fev_rd (hb.load ti23 rfl hiw)]
      simp only [fe_cons, fev_pure, execOp, opd, ofValue, putT, put, nth, bor, binInt, shiftB, intOp, wrapI, Nat.reduceAdd, ↓reduceIte, decide_true, hw]
      rw [fev_rd (arr_idx t25 s23 rfl hgt)]
      simp only [fe_cons, execOp, opd, putT, put, nth, Nat.reduceAdd]
      rw [fev_rd (ha2.load ti23 rfl hgt)]
      have hlt : wd a i / 2 ^ r < 18446744073709551616 := Nat.lt_of_le_of_lt (Nat.div_le_self _ _) (wd_lt _ _)
      simp only [fe_cons, fev_ob, fev_pure, execOp, opd, ofValue, putT, put, nth, bor, binInt, shiftB, shiftOp, intOp, wrapI, Nat.reduceAdd, decide_true, true_and, hs2, h0r2, ushl _ (64 - r) (by omega), uor hlt (Nat.mod_lt _ (by decide))]
      rw [fev_rd (arr_idx t25 s23 rfl hiw)]
      simp only [fe_cons, execOp, opd, putT, put, nth, Nat.reduceAdd]
      refine fev_arr hb (hf.upd b5) b5 ti23 rfl hiw fun bb2 rr ww hb2 => ?_
      simp only [fe_nil, core1, fgr, execOp, opd, ofValue, putT, put, nth, forgetL, bor, binInt, shiftB, intOp, wrapI, Nat.reduceAdd, decide_true]
      refine ⟨(by (try simp (disch := omega) only [fine, List.all_cons, List.all_nil, clash_pl, clash_pr, clash_rr, Bool.not_false, Bool.true_or, Bool.and_true, Bool.true_and]); repeat' (first | rfl | exact (Bool.or_eq_true _ _).mpr (.inr rfl) | refine (Bool.and_eq_true _ _).mpr ⟨?_, ?_⟩)), ?_⟩
      simp only [hw]
      refine ih (i + 1) _ _ _ _ _ _ _ (by omega) (by omega) (ha2.upd d2) (hb2.ext fun j hj => ?_) (fun j hj => by rw [upd_ne _ _ hj, upd_ne _ _ hj]; exact hk j hj) ((hf.upd b5).upd b5)
      rw [key]
      by_cases e : j = i - w
      · simp only [if_pos e]
        rw [hri]
      · simp only [if_neg e]
    · have hgt2 : ¬ ((i + 1 : Nat) : Int) < 4 := by omega
      simp only [core1, fgr, execOp, opd, ofValue, putT, put, nth, forgetL, bor, binInt, shiftB, intOp, wrapI, decide_true, decide_false, hw, hgt2]
      refine ih (i + 1) _ _ _ _ _ _ _ (by omega) (by omega) (ha.upd d2) (hb.ext fun j hj => ?_) (fun j hj => by rw [upd_ne _ _ hj]; exact hk j hj) (hf.upd b5)
      rw [key]
      by_cases e : j = i - w
      · simp only [if_pos e]
        rw [hri, wd_hi a (i + 1) ha' (by omega)]; simp
      · simp only [if_neg e]
def rightV (a : Nat) (z : Int) : Nat := if z ≤ 0 then a else a / 2 ^ z.toNat
theorem f51 (a : Nat) (z : Int) (h : Hp) (n : Nat) (ha : a < b256) (hf : Free h n) : Wp (callI env (evalW env) 51 [W a, .int .i64 z]) h n fun v' h' n' => v' = W (rightV a z) ∧ Old h h' n := by
  refine wp_callI ff51 fi51 ?_
  by_cases h0 : z ≤ 0
  · have e : rightV a z = a := if_pos h0
    simp (disch := omega) only [fu51, Try.f51, Option.getD_some, List.replicate, core1, tyr, fgr, execOp, opd, ofValue, putT, put, nth, forgetL, zeroOf, bor, binInt, shiftB, intOp, readCells, cellsOf, aggB, cel, alloc, doAlloc, newRow, ended, resultOf, oneOrTup, rowK, List.cons_append, List.nil_append, List.length_cons, List.length_nil, Nat.reduceAdd, Nat.reduceSub, not_false_eq_true, decide_true, Bool.and_true, true_and, Nat.zero_add, wp_pure, reduceCtorEq, memr, List.take_succ_cons, List.take_zero, List.drop_zero, Nat.ble, writeCells, setAll, Cont.size, Cont.set, Cont.sub, upd_same, upd_ne, List.all_cons, List.all_nil, Option.some.injEq, exists_eq_left', ne_eq, true_and, List.length_cons, List.length_nil, W, h0, wp_get, wp_ob]
    rw [e]
    exact ⟨by trivial, fun j hj => by simp (disch := omega) only [upd_ne]⟩
  · obtain ⟨m, rfl⟩ := Int.eq_ofNat_of_zero_le (show 0 ≤ z by omega)
    have e : rightV a (m : Int) = a / 2 ^ m := by unfold rightV; rw [if_neg h0, Int.toNat_natCast]
    have h0' : ¬ ((m : Nat) : Int) ≤ 0 := h0
    rw [e]
    by_cases h1 : (256 : Int) ≤ ((m : Nat) : Int)
    · simp (disch := omega) only [fu51, Try.f51, Option.getD_some, List.replicate, core1, tyr, fgr, execOp, opd, ofValue, putT, put, nth, forgetL, zeroOf, bor, binInt, shiftB, intOp, readCells, cellsOf, aggB, cel, alloc, doAlloc, newRow, ended, resultOf, oneOrTup, rowK, List.cons_append, List.nil_append, List.length_cons, List.length_nil, Nat.reduceAdd, Nat.reduceSub, ge_iff_le, not_false_eq_true, decide_true, decide_false, Bool.and_true, true_and, Nat.zero_add, wp_pure, reduceCtorEq, memr, List.take_succ_cons, List.take_zero, List.drop_zero, Nat.ble, writeCells, setAll, Cont.size, Cont.set, Cont.sub, upd_same, upd_ne, List.all_cons, List.all_nil, Option.some.injEq, exists_eq_left', ne_eq, true_and, List.length_cons, List.length_nil, W, h0', h1, wp_get, wp_ob]
      have : a / 2 ^ m = 0 := Nat.div_eq_of_lt (Nat.lt_of_lt_of_le ha (show b256 ≤ 2 ^ m from Nat.le_trans (show b256 ≤ 2 ^ 256 by decide) (Nat.pow_le_pow_right (by decide) (by omega))))
      rw [this]
      exact ⟨rfl, fun j hj => by simp (disch := omega) only [upd_ne]⟩
    · have hm : m < 256 := by omega
      have q1 : IntKind.i64.wrap (Int.tdiv ((m : Nat) : Int) 64) = ((m / 64 : Nat) : Int) := by rw [Int.tdiv_eq_ediv_of_nonneg (by omega), w64 (by omega) (by omega)]; omega
      have q2 : Int.tmod ((m : Nat) : Int) 64 = ((m % 64 : Nat) : Int) := by rw [Int.tmod_eq_emod_of_nonneg (by omega)]; omega
      simp (disch := omega) only [fu51, Try.f51, Option.getD_some, List.replicate, core1, tyr, fgr, execOp, opd, ofValue, putT, put, nth, forgetL, zeroOf, bor, binInt, shiftB, intOp, wrapI, cel, alloc, doAlloc, newRow, ended, resultOf, oneOrTup, List.cons_append, List.nil_append, List.length_cons, List.length_nil, Nat.reduceAdd, Nat.reduceSub, Int.reduceEq, ge_iff_le, not_false_eq_true, decide_true, decide_false, true_and, Nat.zero_add, ne_eq, true_and, List.length_cons, List.length_nil, W, h0', h1, q1, q2]
      refine loop51 _ _ a (m / 64) (m % 64) n (n + 1 + 1) (n + 1 + 1 + 1) _ ha (by omega) (by omega) (by omega) (by omega) _ ?_ (4 - m / 64) (m / 64) _ _ _ _ _ _ _ (by omega) (Nat.le_refl _) (arr_W (by simp (disch := omega) only [upd_ne]; exact upd_same _ _ _)) ((arr_0 (upd_same _ _ _)).ext fun j hj => by rw [Nat.sub_self, if_neg (Nat.not_lt_zero j)]) (fun _ _ => rfl) (((hf.new).new).new)
      intro h' x0 x1 x2 x6 x7 x8 x10 x13 x21 x35 ho hk hf'
      simp only [core1, execOp, opd, nth]
      rw [opv_rd (ho.all ti25 rfl rfl), range4]
      simp only [core1, execOp, opd, putT, put, nth]
      have h4 : Arr .u64 h' (n + 1) 4 (fun _ => 0) := arr_0 ((hk _ (by omega)).trans (by simp (disch := omega) only [upd_ne]; exact upd_same _ _ _))
      refine opv_all4 h4 ti25 rfl fun bb hbb => ?_
      simp only [core1, fgr, putT, nth, forgetL, true_and, wp_pure, wp_rd (hbb.all ti25 rfl rfl), range4, pick4]
      have hm64 : 64 * (m / 64) + m % 64 = m := Nat.div_add_mod m 64
      rw [hm64]
      refine ⟨by trivial, fun j hj => ?_⟩
      rw [upd_ne _ _ (by omega), hk j (by omega)]
      simp (disch := omega) only [upd_ne]
/- How long numbers are. -/
theorem ushr16 (x : Nat) : Int.fdiv (x : Int) (2 ^ (min (Int.toNat 16) IntKind.u64.bits)) = ((x / 65536 : Nat) : Int) := ushr x 16 (by decide)
theorem ushr8 (x : Nat) : Int.fdiv (x : Int) (2 ^ (min (Int.toNat 8) IntKind.u64.bits)) = ((x / 256 : Nat) : Int) := ushr x 8 (by decide)
def tb8 : List UInt8 := [0, 1, 2, 2, 3, 3, 3, 3, 4, 4, 4, 4, 4, 4, 4, 4, 5, 5, 5, 5, 5, 5, 5, 5, 5, 5, 5, 5, 5, 5, 5, 5, 6, 6, 6, 6, 6, 6, 6, 6, 6, 6, 6, 6, 6, 6, 6, 6, 6, 6, 6, 6, 6, 6, 6, 6, 6, 6, 6, 6, 6, 6, 6, 6, 7, 7, 7, 7, 7, 7, 7, 7, 7, 7, 7, 7, 7, 7, 7, 7, 7, 7, 7, 7, 7, 7, 7, 7, 7, 7, 7, 7, 7, 7, 7, 7, 7, 7, 7, 7, 7, 7, 7, 7, 7, 7, 7, 7, 7, 7, 7, 7, 7, 7, 7, 7, 7, 7, 7, 7, 7, 7, 7, 7, 7, 7, 7, 7, 8, 8, 8, 8, 8, 8, 8, 8, 8, 8, 8, 8, 8, 8, 8, 8, 8, 8, 8, 8, 8, 8, 8, 8, 8, 8, 8, 8, 8, 8, 8, 8, 8, 8, 8, 8, 8, 8, 8, 8, 8, 8, 8, 8, 8, 8, 8, 8, 8, 8, 8, 8, 8, 8, 8, 8, 8, 8, 8, 8, 8, 8, 8, 8, 8, 8, 8, 8, 8, 8, 8, 8, 8, 8, 8, 8, 8, 8, 8, 8, 8, 8, 8, 8, 8, 8, 8, 8, 8, 8, 8, 8, 8, 8, 8, 8, 8, 8, 8, 8, 8, 8, 8, 8, 8, 8, 8, 8, 8, 8, 8, 8, 8, 8, 8, 8, 8, 8, 8, 8, 8, 8, 8, 8, 8, 8, 8, 8]
theorem tb8_ok : ∀ x, x < 256 → (byteAt tb8 x).toNat ≤ 8 ∧ x < 2 ^ (byteAt tb8 x).toNat := by decide
theorem len_fin {a y s : Nat} (hy : y < 256) (hs : s ≤ 56) (ha : a / 2 ^ s = y) :
    decide (0 ≤ IntKind.u8.wrap ((y : Nat) : Int) ∧ IntKind.u8.wrap ((y : Nat) : Int) < 256) = true ∧ ∃ L : Nat, AVal.int .i64 (IntKind.i64.wrap (((s : Nat) : Int) + IntKind.i64.wrap ((byteAt tb8 (IntKind.u8.wrap ((y : Nat) : Int)).toNat).toNat : Int))) = .int .i64 (L : Nat) ∧ L ≤ 64 ∧ a < 2 ^ L := by
  have e : IntKind.u8.wrap ((y : Nat) : Int) = ((y : Nat) : Int) := by rw [IntKind.wrap_u8]; omega
  obtain ⟨h1, h2⟩ := tb8_ok y hy
  rw [e]
  refine ⟨decide_eq_true ⟨by omega, by omega⟩, s + (byteAt tb8 y).toNat, ?_, by omega, ?_⟩
  · have e2 : IntKind.i64.wrap ((byteAt tb8 y).toNat : Int) = ((byteAt tb8 y).toNat : Int) := w64 (by omega) (by omega)
    rw [Int.toNat_natCast, e2, w64 (by omega) (by omega)]; rfl
  · rw [Nat.pow_add, Nat.mul_comm]
    exact (Nat.div_lt_iff_lt_mul (Nat.two_pow_pos _)).1 (by rw [ha]; exact h2)
theorem f71 (a : Nat) (h : Hp) (n : Nat) (ha : a < 18446744073709551616) : Wp (callI env (evalW env) 71 [.int .u64 (a : Nat)]) h n fun v' h' n' => (∃ L : Nat, v' = .int .i64 (L : Nat) ∧ L ≤ 64 ∧ a < 2 ^ L) ∧ h' = h ∧ n' = n := by
  refine wp_callI ff71 fi71 ?_
  by_cases i32 : (4294967296 : Int) ≤ ((a : Nat) : Int)
  · by_cases i16 : (65536 : Int) ≤ ((a / 4294967296 : Nat) : Int)
    · by_cases i8 : (256 : Int) ≤ ((a / 4294967296 / 65536 : Nat) : Int)
      · simp (disch := omega) only [fu71, Try.f71, Option.getD_some, List.replicate, core1, tyr, fgr, execOp, opd, ofValue, putT, put, nth, forgetL, und, lenOf, bor, binInt, shiftB, shiftOp, intOp, wrapI, strK, intK, aggK, idx, ended, resultOf, oneOrTup, index, List.append_eq, List.cons_append, List.nil_append, List.length_cons, List.length_nil, Nat.reduceAdd, Nat.reduceSub, Int.cast_ofNat_Int, Int.reduceLE, Int.reduceAdd, ge_iff_le, decide_true, and_true, true_and, and_self, Nat.zero_add, wp_pure, convert, convStr, isU8, i32, i16, i8, ushr32, ushr16, ushr8, w64]
        exact len_fin (a := a) (y := a / 4294967296 / 65536 / 256) (s := 56) (by omega) (by omega) (by omega)
      · simp (disch := omega) only [fu71, Try.f71, Option.getD_some, List.replicate, core1, tyr, fgr, execOp, opd, ofValue, putT, put, nth, forgetL, und, lenOf, bor, binInt, shiftB, shiftOp, intOp, wrapI, strK, intK, aggK, idx, ended, resultOf, oneOrTup, index, List.append_eq, List.cons_append, List.nil_append, List.length_cons, List.length_nil, Nat.reduceAdd, Nat.reduceSub, Int.cast_ofNat_Int, Int.reduceLE, Int.reduceAdd, ge_iff_le, decide_true, decide_false, and_true, true_and, and_self, Nat.zero_add, wp_pure, convert, convStr, isU8, i32, i16, i8, ushr32, ushr16, w64]
        exact len_fin (a := a) (y := a / 4294967296 / 65536) (s := 48) (by omega) (by omega) (by omega)
    · by_cases i8 : (256 : Int) ≤ ((a / 4294967296 : Nat) : Int)
      · simp (disch := omega) only [fu71, Try.f71, Option.getD_some, List.replicate, core1, tyr, fgr, execOp, opd, ofValue, putT, put, nth, forgetL, und, lenOf, bor, binInt, shiftB, shiftOp, intOp, wrapI, strK, intK, aggK, idx, ended, resultOf, oneOrTup, index, List.append_eq, List.cons_append, List.nil_append, List.length_cons, List.length_nil, Nat.reduceAdd, Nat.reduceSub, Int.cast_ofNat_Int, Int.reduceLE, Int.reduceAdd, ge_iff_le, decide_true, decide_false, and_true, true_and, and_self, Nat.zero_add, wp_pure, convert, convStr, isU8, i32, i16, i8, ushr32, ushr8, w64]
        exact len_fin (a := a) (y := a / 4294967296 / 256) (s := 40) (by omega) (by omega) (by omega)
      · simp (disch := omega) only [fu71, Try.f71, Option.getD_some, List.replicate, core1, tyr, fgr, execOp, opd, ofValue, putT, put, nth, forgetL, und, lenOf, bor, binInt, shiftB, shiftOp, intOp, wrapI, strK, intK, aggK, idx, ended, resultOf, oneOrTup, index, List.append_eq, List.cons_append, List.nil_append, List.length_cons, List.length_nil, Nat.reduceAdd, Nat.reduceSub, Int.cast_ofNat_Int, Int.reduceLE, ge_iff_le, decide_true, decide_false, and_true, true_and, and_self, Nat.zero_add, wp_pure, convert, convStr, isU8, i32, i16, i8, ushr32]
        exact len_fin (a := a) (y := a / 4294967296) (s := 32) (by omega) (by omega) (by omega)
  · by_cases i16 : (65536 : Int) ≤ ((a : Nat) : Int)
    · by_cases i8 : (256 : Int) ≤ ((a / 65536 : Nat) : Int)
      · simp (disch := omega) only [fu71, Try.f71, Option.getD_some, List.replicate, core1, tyr, fgr, execOp, opd, ofValue, putT, put, nth, forgetL, und, lenOf, bor, binInt, shiftB, shiftOp, intOp, wrapI, strK, intK, aggK, idx, ended, resultOf, oneOrTup, index, List.append_eq, List.cons_append, List.nil_append, List.length_cons, List.length_nil, Nat.reduceAdd, Nat.reduceSub, Int.cast_ofNat_Int, Int.reduceLE, Int.reduceAdd, ge_iff_le, decide_true, decide_false, and_true, true_and, and_self, Nat.zero_add, wp_pure, convert, convStr, isU8, i32, i16, i8, ushr16, ushr8, w64]
        exact len_fin (a := a) (y := a / 65536 / 256) (s := 24) (by omega) (by omega) (by omega)
      · simp (disch := omega) only [fu71, Try.f71, Option.getD_some, List.replicate, core1, tyr, fgr, execOp, opd, ofValue, putT, put, nth, forgetL, und, lenOf, bor, binInt, shiftB, shiftOp, intOp, wrapI, strK, intK, aggK, idx, ended, resultOf, oneOrTup, index, List.append_eq, List.cons_append, List.nil_append, List.length_cons, List.length_nil, Nat.reduceAdd, Nat.reduceSub, Int.cast_ofNat_Int, Int.reduceLE, Int.reduceAdd, ge_iff_le, decide_true, decide_false, and_true, true_and, and_self, Nat.zero_add, wp_pure, convert, convStr, isU8, i32, i16, i8, ushr16, w64]
        exact len_fin (a := a) (y := a / 65536) (s := 16) (by omega) (by omega) (by omega)
    · by_cases i8 : (256 : Int) ≤ ((a : Nat) : Int)
      · simp (disch := omega) only [fu71, Try.f71, Option.getD_some, List.replicate, core1, tyr, fgr, execOp, opd, ofValue, putT, put, nth, forgetL, und, lenOf, bor, binInt, shiftB, shiftOp, intOp, wrapI, strK, intK, aggK, idx, ended, resultOf, oneOrTup, index, List.append_eq, List.cons_append, List.nil_append, List.length_cons, List.length_nil, Nat.reduceAdd, Nat.reduceSub, Int.cast_ofNat_Int, Int.reduceLE, Int.reduceAdd, ge_iff_le, decide_true, decide_false, and_true, true_and, and_self, Nat.zero_add, wp_pure, convert, convStr, isU8, i32, i16, i8, ushr8, w64]
        exact len_fin (a := a) (y := a / 256) (s := 8) (by omega) (by omega) (by omega)
      · simp (disch := omega) only [fu71, Try.f71, Option.getD_some, List.replicate, core1, tyr, fgr, execOp, opd, ofValue, putT, put, nth, forgetL, und, lenOf, bor, binInt, shiftB, intOp, wrapI, strK, intK, aggK, idx, ended, resultOf, oneOrTup, index, List.append_eq, List.cons_append, List.nil_append, List.length_cons, List.length_nil, Nat.reduceAdd, Nat.reduceSub, Int.cast_ofNat_Int, ge_iff_le, decide_true, decide_false, and_true, true_and, and_self, Nat.zero_add, wp_pure, convert, convStr, isU8, i32, i16, i8]
        exact len_fin (a := a) (y := a) (s := 0) (by omega) (by omega) (by omega)
/- How long numbers of four words are. -/
theorem idx_W {a i : Nat} (hi : i < 4) {h : Hp} {n : Nat} : Rd (index env 25 (W a) (.int .i64 (i : Nat))) h n [] (.int .u64 (wd a i : Nat)) := by
  simp only [index, t25, bind_pure, intK, W, aggK, idx, bind_assoc, s23, part, ti23, aggB, Int.toNat_natCast, Nat.mul_one]
  refine Rd.bind (i2 := []) (Rd.ob (by simp; omega)) ?_
  match i, hi with
  | 0, _ => exact Rd.pure _
  | 1, _ => exact Rd.pure _
  | 2, _ => exact Rd.pure _
  | 3, _ => exact Rd.pure _
theorem low_succ (a i : Nat) : a % 2 ^ (64 * (i + 1)) = wd a i * 2 ^ (64 * i) + a % 2 ^ (64 * i) := by
  rw [pow64, Nat.mod_mul, Nat.mul_comm (2 ^ (64 * i)), Nat.add_comm]; rfl
theorem loop70 (Q : Post0) (ks : List Kf) (a n : Nat) (y1 y2 : AVal) (h : Hp)
    (hq : ∀ (L : Nat) (x0 x4 x5 x6 x7 x8 x12 : AVal), L ≤ 256 → a % 2 ^ 256 < 2 ^ L → Kont env 70 none Q ks (.exit 0) (x0 :: y1 :: y2 :: .int .i64 (L : Nat) :: x4 :: x5 :: x6 :: x7 :: x8 :: AVal.junk :: AVal.junk :: AVal.junk :: x12 :: AVal.junk :: AVal.junk :: AVal.junk :: AVal.junk :: AVal.junk :: AVal.junk :: AVal.junk :: []) h n) :
    ∀ (k i L : Nat) (x0 x4 x5 x8 x12 : AVal), i + k = 4 → L ≤ 64 * i → a % 2 ^ (64 * i) < 2 ^ L →
    Run env 70 none Q (.loop lp70_0) ks (x0 :: y1 :: y2 :: .int .i64 (L : Nat) :: x4 :: x5 :: W a :: .int .i64 (i : Nat) :: x8 :: AVal.junk :: AVal.junk :: AVal.junk :: x12 :: AVal.junk :: AVal.junk :: AVal.junk :: AVal.junk :: AVal.junk :: AVal.junk :: AVal.junk :: []) h n := by
  intro k
  induction k with
  | zero =>
    intro i L x0 x4 x5 x8 x12 hi hL hlt
    have : i = 4 := by omega
    subst this
    have hc : ¬ ((4 : Nat) : Int) < 4 := by decide
    rw [run_loop]
    simp only [lp70_0, loopsOf, Try.f70, Option.getD_some, core1, fgr, execOp, opd, ofValue, putT, put, nth, forgetL, bor, binInt, shiftB, intOp, List.nil_append, List.append_nil, Int.cast_ofNat_Int, Int.reduceLT, decide_true, decide_false, List.getD_cons_zero]
    exact hq L _ _ _ _ _ _ _ hL hlt
  | succ k ih =>
    intro i L x0 x4 x5 x8 x12 hi hL hlt
    have h4 : i < 4 := by omega
    have hc : ((i : Nat) : Int) < 4 := by omega
    have hw : IntKind.i64.wrap (((i : Nat) : Int) + 1) = ((i + 1 : Nat) : Int) := by rw [w64 (by omega) (by omega)]; omega
    rw [run_loop]
    simp only [lp70_0, loopsOf, Try.f70, Option.getD_some, core1, fgr, execOp, opd, ofValue, putT, put, nth, forgetL, bor, binInt, shiftB, intOp, List.nil_append, List.append_nil, decide_true, List.getD_cons_zero, hc]
    rw [opv_rd (idx_W h4)]
    by_cases h0 : 0 < wd a i
    · have h0' : (0 : Int) < ((wd a i : Nat) : Int) := by omega
      have hw6 : IntKind.i64.wrap (((i : Nat) : Int) * 64) = ((64 * i : Nat) : Int) := by rw [w64 (by omega) (by omega)]; omega
      simp only [core1, fgr, hkr, execOp, opd, opds, ofValue, putT, put, nth, forgetL, doCall, callV_func, bor, binInt, shiftB, intOp, wrapI, List.nil_append, List.append_nil, gt_iff_lt, decide_true, h0', hw6]
      refine opv_call (f71 (wd a i) h n (wd_lt _ _)) fun v1 h1 n1 hn1 ⟨⟨L1, e1, e2, e3⟩, e4, e5⟩ => ?_
      subst e1; subst e4; subst e5
      have hw7 : IntKind.i64.wrap (((64 * i : Nat) : Int) + ((L1 : Nat) : Int)) = ((64 * i + L1 : Nat) : Int) := by rw [w64 (by omega) (by omega)]; omega
      simp only [core1, fgr, execOp, opd, ofValue, putT, put, nth, forgetL, bor, binInt, shiftB, intOp, wrapI, decide_true, hw7, hw]
      refine ih (i + 1) (64 * i + L1) _ _ _ _ _ (by omega) (by omega) ?_
      rw [low_succ, Nat.pow_add, Nat.mul_comm (2 ^ (64 * i))]
      have h1 : a % 2 ^ (64 * i) < 2 ^ (64 * i) := Nat.mod_lt _ (Nat.two_pow_pos _)
      have h2 : (wd a i + 1) * 2 ^ (64 * i) ≤ 2 ^ L1 * 2 ^ (64 * i) := Nat.mul_le_mul_right _ e3
      rw [Nat.add_mul] at h2
      omega
    · have h0' : ¬ (0 : Int) < ((wd a i : Nat) : Int) := by omega
      simp only [core1, fgr, execOp, opd, ofValue, putT, put, nth, forgetL, bor, binInt, shiftB, intOp, wrapI, gt_iff_lt, decide_true, decide_false, h0', hw]
      refine ih (i + 1) L _ _ _ _ _ (by omega) (by omega) ?_
      rw [low_succ, show wd a i = 0 by omega, Nat.zero_mul, Nat.zero_add]
      exact hlt
theorem f70 (a : Nat) (h : Hp) (n : Nat) (ha : a < b256) : Wp (callI env (evalW env) 70 [W a]) h n fun v' h' n' => (∃ L : Nat, v' = .int .i64 (L : Nat) ∧ L ≤ 256 ∧ a < 2 ^ L) ∧ Old h h' n := by
  refine wp_callI ff70 fi70 ?_
  have hW : W a = .agg [.int .u64 (wd a 0 : Nat), .int .u64 (wd a 1 : Nat), .int .u64 (wd a 2 : Nat), .int .u64 (wd a 3 : Nat)] := rfl
  rw [hW]
  simp (disch := omega) only [fu70, Try.f70, Option.getD_some, List.replicate, core1, tyr, fgr, execOp, opd, ofValue, putT, put, nth, forgetL, readCells, cellsOf, aggB, cel, alloc, newRow, ended, resultOf, oneOrTup, rowK, List.cons_append, List.nil_append, List.length_cons, List.length_nil, Nat.reduceAdd, Nat.reduceSub, true_and, Nat.zero_add, wp_pure, memr, List.take_succ_cons, List.take_zero, List.drop_zero, Nat.ble, Cont.size, Cont.sub, upd_same, Option.some.injEq, exists_eq_left', true_and, List.length_cons, List.length_nil]
  rw [← hW]
  refine loop70 _ _ a (n + 1) _ _ _ ?_ 4 0 0 _ _ _ _ _ rfl (Nat.zero_le _) (by rw [Nat.mul_zero, Nat.pow_zero, Nat.mod_one]; decide)
  intro L x0 x4 x5 x6 x7 x8 x12 hL hlt
  simp only [core1, fgr, execOp, opd, putT, put, nth, forgetL, true_and]
  have : a % 2 ^ 256 = a := Nat.mod_eq_of_lt (Nat.lt_of_lt_of_le ha (by decide))
  rw [this] at hlt
  exact ⟨⟨L, rfl, hL, hlt⟩, (Old.refl _ _).upd (Nat.le_refl _)⟩
/- Division, bit by bit. -/
theorem wd_or (x y i : Nat) : wd (x ||| y) i = wd x i ||| wd y i := by
  unfold wd
  rw [show (18446744073709551616 : Nat) = 2 ^ 64 from rfl, Nat.or_div_two_pow, Nat.or_mod_two_pow]
theorem wd_pow (n i : Nat) : wd (2 ^ n) i = if i = n / 64 then 2 ^ (n % 64) else 0 := by
  unfold wd
  have hn := Nat.div_add_mod n 64
  by_cases h : i = n / 64
  · subst h
    rw [if_pos rfl, show 2 ^ n = 2 ^ (n % 64) * 2 ^ (64 * (n / 64)) by rw [← Nat.pow_add]; congr 1; omega, Nat.mul_div_cancel _ (Nat.two_pow_pos _), Nat.mod_eq_of_lt]
    exact Nat.lt_of_lt_of_le (Nat.pow_lt_pow_right (by decide) (Nat.mod_lt _ (by decide))) (show 2 ^ 64 ≤ 18446744073709551616 by decide)
  · rw [if_neg h]
    by_cases h2 : i < n / 64
    · rw [show 2 ^ n = 2 ^ (n - 64 * i - 64) * 18446744073709551616 * 2 ^ (64 * i) by rw [show 18446744073709551616 = 2 ^ 64 from rfl, ← Nat.pow_add, ← Nat.pow_add]; congr 1; omega, Nat.mul_div_cancel _ (Nat.two_pow_pos _), Nat.mul_mod_left]
    · rw [Nat.div_eq_of_lt (Nat.pow_lt_pow_right (by decide) (by omega)), Nat.zero_mod]
theorem set_bit (Q n i : Nat) (hQ : Q % 2 ^ (n + 1) = 0) : wd (Q + 2 ^ n) i = if i = n / 64 then wd Q i ||| 2 ^ (n % 64) else wd Q i := by
  rw [← or_low Q (2 ^ n) (n + 1) hQ (Nat.pow_lt_pow_right (by decide) (by omega)), wd_or, wd_pow]
  split
  · rfl
  · rw [Nat.or_zero]
theorem bit_wd (a n : Nat) : wd a (n / 64) / 2 ^ (n % 64) % 2 = a / 2 ^ n % 2 := by
  have h : (wd a (n / 64)).testBit (n % 64) = a.testBit n := by
    unfold wd
    rw [show (18446744073709551616 : Nat) = 2 ^ 64 from rfl, Nat.testBit_mod_two_pow, Nat.testBit_div_two_pow, decide_eq_true (Nat.mod_lt _ (by decide)), Bool.true_and]
    congr 1
    omega
  rw [Nat.testBit_eq_decide_div_mod_eq, Nat.testBit_eq_decide_div_mod_eq] at h
  have h1 : wd a (n / 64) / 2 ^ (n % 64) % 2 < 2 := Nat.mod_lt _ (by decide)
  have h2 : a / 2 ^ n % 2 < 2 := Nat.mod_lt _ (by decide)
  by_cases q : wd a (n / 64) / 2 ^ (n % 64) % 2 = 1
  · rw [q] at h
    have := of_decide_eq_true (h.symm.trans (decide_eq_true rfl))
    omega
  · rw [decide_eq_false q] at h
    have := of_decide_eq_false h.symm
    omega
theorem half_step (a m : Nat) : a / 2 ^ m = 2 * (a / 2 ^ (m + 1)) + a / 2 ^ m % 2 := by
  rw [Nat.pow_succ, ← Nat.div_div_eq_div_mul]; omega
end Go.Am.Ytmlagocbphoedaa
