/- The functions that the statement reaches, gone through. -/
import Derived.Test.YtmlagocbphoedaaEnv
import Derived.Test.YtmlagocbphoedaaAoP
set_option linter.unusedSimpArgs false
set_option linter.unusedVariables false
set_option linter.defProp false
set_option maxRecDepth 10000
namespace Go.Am.Ytmlagocbphoedaa
open Go Go.Am Go.Proofs
/- Sums and differences of numbers of four words. -/
theorem t25 : und env 25 = M.pure (.array 4 23) := rfl
theorem s23 : sizeOf env 23 = M.pure 1 := rfl
theorem f19 (a : Nat) (h : Hp) (n : Nat) (ha : a < 18446744073709551616) : Wp (callI env (evalW env) 19 [.int .u64 (a : Nat)]) h n fun v' h' n' => v' = W a ∧ Old h h' n := by
  refine wp_callI ff19 fi19 ?_
  simp (disch := omega) only [fu19, Try.f19, Option.getD_some, List.replicate, core1, tyr, fgr, execOp, opd, ops2, putT, put, nth, forgetL, sizeOf, zeroOf, readCells, cellsOf, aggB, cel, alloc, doAlloc, newRow, getO, ended, resultOf, oneOrTup, rowK, List.cons_append, List.nil_append, List.length_cons, List.length_nil, Nat.reduceAdd, Nat.reduceSub, not_false_eq_true, Bool.not_false, Bool.and_true, Bool.true_and, true_and, Nat.zero_add, Nat.zero_mul, wp_pure, reduceCtorEq, memr, build, fill, List.take_succ_cons, List.take_zero, List.drop_succ_cons, List.drop_zero, Nat.ble, writeCells, setAll, Cont.size, Cont.set, Cont.sub, upd_same, List.all_cons, List.all_nil, Option.some.injEq, exists_eq_left', ne_eq, true_and, List.length_cons, List.length_nil, Nat.zero_mul, wp_get, wp_ob, build]
  exact ⟨W_eq (a := a) (b := 0) (c := 0) (d := 0) (by unfold of4; omega) ha (by decide) (by decide) (by decide), ((Old.refl _ _).upd (Nat.le_refl _)).upd (Nat.le_refl _)⟩
def cyA (a b : Nat) : Nat → Nat
  | 0 => 0
  | j + 1 => addC (wd a j) (wd b j) (cyA a b j)
def dgA (a b j : Nat) : Nat := addD (wd a j) (wd b j) (cyA a b j)
theorem cyA_le (a b : Nat) : ∀ j, cyA a b j ≤ 1 := by
  intro j
  induction j with
  | zero => exact Nat.zero_le _
  | succ j ih => exact addC_le (wd_lt _ _) (wd_lt _ _) ih
theorem add_res {a b : Nat} (ha : a < b256) (hb : b < b256) : AVal.agg [.int .u64 (dgA a b 0 : Nat), .int .u64 (dgA a b 1 : Nat), .int .u64 (dgA a b 2 : Nat), .int .u64 (dgA a b 3 : Nat)] = W ((a + b) % b256) ∧ decide (0 < ((cyA a b 4 : Nat) : Int)) = decide (b256 ≤ a + b) := by
  have h1 : of4 (dgA a b 0) (dgA a b 1) (dgA a b 2) (dgA a b 3) + cyA a b 4 * b256 = of4 (wd a 0) (wd a 1) (wd a 2) (wd a 3) + of4 (wd b 0) (wd b 1) (wd b 2) (wd b 3) := add_words _ _ _ _ _ _ _ _
  rw [of4_wd ha, of4_wd hb] at h1
  have h2 : of4 (dgA a b 0) (dgA a b 1) (dgA a b 2) (dgA a b 3) < b256 := of4_lt (addD_lt _ _ _) (addD_lt _ _ _) (addD_lt _ _ _) (addD_lt _ _ _)
  have h3 := cyA_le a b 4
  have hB : b256 = 115792089237316195423570985008687907853269984665640564039457584007913129639936 := rfl
  rw [hB] at h1 h2 ha hb ⊢
  refine ⟨W_eq (by omega) (addD_lt _ _ _) (addD_lt _ _ _) (addD_lt _ _ _) (addD_lt _ _ _), ?_⟩
  by_cases hc : cyA a b 4 = 0
  · rw [decide_eq_false (by omega), decide_eq_false (by rw [hc] at h1; omega)]
  · have : cyA a b 4 = 1 := by omega
    rw [decide_eq_true (by omega), decide_eq_true (by rw [this] at h1; omega)]
theorem arr_set {k : IntKind} {h : Hp} {id i : Nat} {z : Int} {g : Nat → Int} (ha : Arr k h id 4 (fun x => if x = i then z else if x < i then g x else 0)) (hz : z = g i) : Arr k h id 4 (fun x => if x < i + 1 then g x else 0) :=
  ha.ext fun j hj => by
    by_cases e : j = i
    · rw [if_pos e, if_pos (by omega), hz, e]
    · rw [if_neg e]
      by_cases e2 : j < i
      · rw [if_pos e2, if_pos (by omega)]
      · rw [if_neg e2, if_neg (by omega)]
theorem loop27 (Q : Post0) (ks : List Kf) (a b i2 i3 i4 n : Nat) (d2 : i2 ≠ i4) (d3 : i3 ≠ i4) (b4 : i4 < n) (h0 : Hp)
    (hq : ∀ (h : Hp) (x0 x1 x2 x3 x5 x7 x8 x9 : AVal), Arr .u64 h i4 4 (fun j => (dgA a b j : Nat)) → (∀ j, j ≠ i4 → h j = h0 j) → Free h n → Kont env 27 none Q ks (.exit 0) (x0 :: x1 :: x2 :: x3 :: .ptr i4 0 :: x5 :: .int .u64 (cyA a b 4 : Nat) :: x7 :: x8 :: x9 :: AVal.junk :: AVal.junk :: AVal.junk :: AVal.junk :: AVal.junk :: AVal.junk :: AVal.junk :: AVal.junk :: AVal.junk :: AVal.junk :: AVal.junk :: AVal.junk :: AVal.junk :: AVal.junk :: AVal.junk :: AVal.junk :: AVal.junk :: AVal.junk :: []) h n) :
    ∀ (k i : Nat) (h : Hp) (x0 x1 x5 x7 x9 : AVal), i + k = 4 → Arr .u64 h i2 4 (fun j => (wd a j : Nat)) → Arr .u64 h i3 4 (fun j => (wd b j : Nat)) → Arr .u64 h i4 4 (fun j => if j < i then (dgA a b j : Nat) else 0) → (∀ j, j ≠ i4 → h j = h0 j) → Free h n →
    Run env 27 none Q (.loop lp27_0) ks (x0 :: x1 :: .ptr i2 0 :: .ptr i3 0 :: .ptr i4 0 :: x5 :: .int .u64 (cyA a b i : Nat) :: x7 :: .int .i64 (i : Nat) :: x9 :: AVal.junk :: AVal.junk :: AVal.junk :: AVal.junk :: AVal.junk :: AVal.junk :: AVal.junk :: AVal.junk :: AVal.junk :: AVal.junk :: AVal.junk :: AVal.junk :: AVal.junk :: AVal.junk :: AVal.junk :: AVal.junk :: AVal.junk :: AVal.junk :: []) h n := by
  intro k
  induction k with
  | zero =>
    intro i h x0 x1 x5 x7 x9 hi ha hb ho hk hf
    have : i = 4 := by omega
    subst this
    have hc : ¬ ((4 : Nat) : Int) < 4 := by decide
    rw [run_loop]
    simp only [lp27_0, loopsOf, Try.f27, Option.getD_some, core1, fgr, execOp, opd, ofValue, putT, put, nth, forgetL, bor, binInt, shiftB, intOp, List.nil_append, List.append_nil, Int.cast_ofNat_Int, Int.reduceLT, decide_true, decide_false, List.getD_cons_zero]
    exact hq h _ _ _ _ _ _ _ _ (ho.ext fun j hj => if_pos hj) hk hf
  | succ k ih =>
    intro i h x0 x1 x5 x7 x9 hi ha hb ho hk hf
    have h4 : i < 4 := by omega
    have hc : ((i : Nat) : Int) < 4 := by omega
    have hw : IntKind.i64.wrap (((i : Nat) : Int) + 1) = ((i + 1 : Nat) : Int) := by rw [w64 (by omega) (by omega)]; omega
    rw [run_loop]
    simp only [lp27_0, loopsOf, Try.f27, Option.getD_some, core1, fgr, execOp, opd, ofValue, putT, put, nth, forgetL, bor, binInt, shiftB, intOp, List.nil_append, List.append_nil, decide_true, List.getD_cons_zero, hc]
    refine run_draw.2 ⟨rfl, ?_⟩
    simp only [fe_cons, fev_pure, execOp, opd, putT, put, nth, Nat.reduceAdd, Nat.zero_add]
    rw [fev_rd (arr_idx t25 s23 rfl h4)]
    simp only [fe_cons, execOp, opd, putT, put, nth, Nat.reduceAdd]
    rw [fev_rd (ha.load ti23 rfl h4)]
    simp only [fe_cons, fev_pure, execOp, opd, putT, put, nth, Nat.reduceAdd]
    rw [fev_rd (arr_idx t25 s23 rfl h4)]
    simp only [fe_cons, execOp, opd, putT, put, nth, Nat.reduceAdd]
    rw [fev_rd (hb.load ti23 rfl h4)]
    simp only [fe_cons, fev_ob, fev_pure, hkr, execOp, opd, opds, putT, put, nth, doCall, callV_func, extract, getO, List.getElem?_cons_succ, List.getElem?_cons_zero, List.nil_append, List.append_nil, Nat.reduceAdd, true_and, add_eq (cyA_le a b i)]
    rw [fev_rd (arr_idx t25 s23 rfl h4)]
    simp only [fe_cons, execOp, opd, putT, put, nth, Nat.reduceAdd]
    refine fev_arr ho hf b4 ti23 rfl h4 fun bb rr ww ho2 => ?_
    simp only [fe_nil, fe_cons, fev_pure, core1, fgr, execOp, opd, ofValue, putT, put, nth, forgetL, bor, binInt, shiftB, intOp, wrapI, Nat.reduceAdd, decide_true]
    rw [hw]
    refine ⟨(by (try simp (disch := omega) only [fine, List.all_cons, List.all_nil, clash_pl, clash_pr, clash_rr, Bool.not_false, Bool.true_or, Bool.and_true, Bool.true_and]); repeat' (first | rfl | exact (Bool.or_eq_true _ _).mpr (.inr rfl) | refine (Bool.and_eq_true _ _).mpr ⟨?_, ?_⟩)), ?_⟩
    refine ih (i + 1) _ _ _ _ _ _ (by omega) (ha.upd d2) (hb.upd d3) (arr_set ho2 rfl) (fun j hj => by rw [upd_ne _ _ hj]; exact hk j hj) (hf.upd b4)
theorem f27 (a b : Nat) (h : Hp) (n : Nat) (ha : a < b256) (hb : b < b256) (hf : Free h n) : Wp (callI env (evalW env) 27 [W a, W b]) h n fun v' h' n' => v' = .tup [W ((a + b) % b256), .bool (decide (b256 ≤ a + b))] ∧ Old h h' n := by
  refine wp_callI ff27 fi27 ?_
  simp (disch := omega) only [fu27, Try.f27, Option.getD_some, List.replicate, core1, tyr, fgr, execOp, opd, ofValue, putT, put, nth, forgetL, zeroOf, cel, alloc, doAlloc, newRow, ended, resultOf, oneOrTup, List.cons_append, List.nil_append, List.length_cons, List.length_nil, Nat.reduceAdd, Nat.reduceSub, Nat.zero_add, List.length_cons, List.length_nil, W]
  refine loop27 _ _ a b n (n + 1) (n + 1 + 1) (n + 1 + 1 + 1) (by omega) (by omega) (by omega) _ ?_ 4 0 _ _ _ _ _ _ rfl (arr_W (by rw [upd_ne _ _ (by omega), upd_ne _ _ (by omega)]; exact upd_same _ _ _)) (arr_W (by rw [upd_ne _ _ (by omega)]; exact upd_same _ _ _)) ((arr_0 (upd_same _ _ _)).ext fun j hj => by simp) (fun _ _ => rfl) (((hf.new).new).new)
  intro h' x0 x1 x2 x3 x5 x7 x8 x9 ho hk hf'
  simp only [core1, execOp, opd, nth]
  rw [opv_rd (ho.all ti25 rfl rfl)]
  rw [range4]
  simp only [core1, execOp, opd, ofValue, putT, put, nth, bor, binInt, shiftB, intOp, gt_iff_lt, decide_true]
  refine opv_all4 ho ti25 rfl fun bb hbb => ?_
  simp only [core1, fgr, execOp, opd, putT, put, nth, forgetL, true_and, wp_pure, wp_rd (hbb.all ti25 rfl rfl), range4, pick4]
  obtain ⟨r1, r2⟩ := add_res ha hb
  refine ⟨?_, fun j hj => ?_⟩
  · rw [r2]
    exact congrArg (fun v => AVal.tup [v, _]) r1
  · rw [upd_ne _ _ (by omega), hk j (by omega)]
    simp (disch := omega) only [upd_ne]
/- Differences and order of numbers of four words. -/
def cyS (a b : Nat) : Nat → Nat
  | 0 => 0
  | j + 1 => subC (wd a j) (wd b j) (cyS a b j)
def dgS (a b j : Nat) : Nat := subD (wd a j) (wd b j) (cyS a b j)
theorem cyS_le (a b : Nat) : ∀ j, cyS a b j ≤ 1 := by
  intro j
  cases j with
  | zero => exact Nat.zero_le _
  | succ j => exact subC_le _ _ _
theorem sub_step {x y c : Nat} (hx : x < 18446744073709551616) (hy : y < 18446744073709551616) (hc : c ≤ 1) : subD x y c + y + c = x + subC x y c * 18446744073709551616 := by
  unfold subD subC
  split <;> omega
theorem sub_res {a b : Nat} (ha : a < b256) (hb : b < b256) : AVal.agg [.int .u64 (dgS a b 0 : Nat), .int .u64 (dgS a b 1 : Nat), .int .u64 (dgS a b 2 : Nat), .int .u64 (dgS a b 3 : Nat)] = W ((a + b256 - b) % b256) ∧ decide (0 < ((cyS a b 4 : Nat) : Int)) = decide (a < b) := by
  have e0 : dgS a b 0 + wd b 0 + 0 = wd a 0 + cyS a b 1 * 18446744073709551616 := sub_step (c := 0) (wd_lt _ _) (wd_lt _ _) (Nat.zero_le 1)
  have e1 : dgS a b 1 + wd b 1 + cyS a b 1 = wd a 1 + cyS a b 2 * 18446744073709551616 := sub_step (wd_lt _ _) (wd_lt _ _) (cyS_le a b 1)
  have e2 : dgS a b 2 + wd b 2 + cyS a b 2 = wd a 2 + cyS a b 3 * 18446744073709551616 := sub_step (wd_lt _ _) (wd_lt _ _) (cyS_le a b 2)
  have e3 : dgS a b 3 + wd b 3 + cyS a b 3 = wd a 3 + cyS a b 4 * 18446744073709551616 := sub_step (wd_lt _ _) (wd_lt _ _) (cyS_le a b 3)
  have h1 : of4 (dgS a b 0) (dgS a b 1) (dgS a b 2) (dgS a b 3) + of4 (wd b 0) (wd b 1) (wd b 2) (wd b 3) = of4 (wd a 0) (wd a 1) (wd a 2) (wd a 3) + cyS a b 4 * b256 := by
    unfold of4 b256
    omega
  rw [of4_wd ha, of4_wd hb] at h1
  have h2 : of4 (dgS a b 0) (dgS a b 1) (dgS a b 2) (dgS a b 3) < b256 := of4_lt (subD_lt _ _ _) (subD_lt _ _ _) (subD_lt _ _ _) (subD_lt _ _ _)
  have h3 := cyS_le a b 4
  have hB : b256 = 115792089237316195423570985008687907853269984665640564039457584007913129639936 := rfl
  rw [hB] at h1 h2 ha hb ⊢
  refine ⟨W_eq (by omega) (subD_lt _ _ _) (subD_lt _ _ _) (subD_lt _ _ _) (subD_lt _ _ _), ?_⟩
  by_cases hc : cyS a b 4 = 0
  · rw [decide_eq_false (by omega), decide_eq_false (by rw [hc] at h1; omega)]
  · have : cyS a b 4 = 1 := by omega
    rw [decide_eq_true (by omega), decide_eq_true (by rw [this] at h1; omega)]
theorem loop18 (Q : Post0) (ks : List Kf) (a b i2 i3 i4 n : Nat) (d2 : i2 ≠ i4) (d3 : i3 ≠ i4) (b4 : i4 < n) (h0 : Hp)
    (hq : ∀ (h : Hp) (x0 x1 x2 x3 x5 x7 x8 x9 : AVal), Arr .u64 h i4 4 (fun j => (dgS a b j : Nat)) → (∀ j, j ≠ i4 → h j = h0 j) → Free h n → Kont env 18 none Q ks (.exit 0) (x0 :: x1 :: x2 :: x3 :: .ptr i4 0 :: x5 :: .int .u64 (cyS a b 4 : Nat) :: x7 :: x8 :: x9 :: AVal.junk :: AVal.junk :: AVal.junk :: AVal.junk :: AVal.junk :: AVal.junk :: AVal.junk :: AVal.junk :: AVal.junk :: AVal.junk :: AVal.junk :: AVal.junk :: AVal.junk :: AVal.junk :: AVal.junk :: AVal.junk :: AVal.junk :: AVal.junk :: []) h n) :
    ∀ (k i : Nat) (h : Hp) (x0 x1 x5 x7 x9 : AVal), i + k = 4 → Arr .u64 h i2 4 (fun j => (wd a j : Nat)) → Arr .u64 h i3 4 (fun j => (wd b j : Nat)) → Arr .u64 h i4 4 (fun j => if j < i then (dgS a b j : Nat) else 0) → (∀ j, j ≠ i4 → h j = h0 j) → Free h n →
    Run env 18 none Q (.loop lp18_0) ks (x0 :: x1 :: .ptr i2 0 :: .ptr i3 0 :: .ptr i4 0 :: x5 :: .int .u64 (cyS a b i : Nat) :: x7 :: .int .i64 (i : Nat) :: x9 :: AVal.junk :: AVal.junk :: AVal.junk :: AVal.junk :: AVal.junk :: AVal.junk :: AVal.junk :: AVal.junk :: AVal.junk :: AVal.junk :: AVal.junk :: AVal.junk :: AVal.junk :: AVal.junk :: AVal.junk :: AVal.junk :: AVal.junk :: AVal.junk :: []) h n := by
  intro k
  induction k with
  | zero =>
    intro i h x0 x1 x5 x7 x9 hi ha hb ho hk hf
    have : i = 4 := by omega
    subst this
    have hc : ¬ ((4 : Nat) : Int) < 4 := by decide
    rw [run_loop]
    simp only [lp18_0, loopsOf, Try.f18, Option.getD_some, core1, fgr, execOp, opd, ofValue, putT, put, nth, forgetL, bor, binInt, shiftB, intOp, List.nil_append, List.append_nil, Int.cast_ofNat_Int, Int.reduceLT, decide_true, decide_false, List.getD_cons_zero]
    exact hq h _ _ _ _ _ _ _ _ (ho.ext fun j hj => if_pos hj) hk hf
  | succ k ih =>
    intro i h x0 x1 x5 x7 x9 hi ha hb ho hk hf
    have h4 : i < 4 := by omega
    have hc : ((i : Nat) : Int) < 4 := by omega
    have hw : IntKind.i64.wrap (((i : Nat) : Int) + 1) = ((i + 1 : Nat) : Int) := by rw [w64 (by omega) (by omega)]; omega
    rw [run_loop]
    simp only [lp18_0, loopsOf, Try.f18, Option.getD_some, core1, fgr, execOp, opd, ofValue, putT, put, nth, forgetL, bor, binInt, shiftB, intOp, List.nil_append, List.append_nil, decide_true, List.getD_cons_zero, hc]
    refine run_draw.2 ⟨rfl, ?_⟩
    simp only [fe_cons, fev_pure, execOp, opd, putT, put, nth, Nat.reduceAdd, Nat.zero_add]
    rw [fev_rd (arr_idx t25 s23 rfl h4)]
    simp only [fe_cons, execOp, opd, putT, put, nth, Nat.reduceAdd]
    rw [fev_rd (ha.load ti23 rfl h4)]
    simp only [fe_cons, fev_pure, execOp, opd, putT, put, nth, Nat.reduceAdd]
    rw [fev_rd (arr_idx t25 s23 rfl h4)]
    simp only [fe_cons, execOp, opd, putT, put, nth, Nat.reduceAdd]
    rw [fev_rd (hb.load ti23 rfl h4)]
    simp only [fe_cons, fev_ob, fev_pure, hkr, execOp, opd, opds, putT, put, nth, doCall, callV_func, extract, getO, List.getElem?_cons_succ, List.getElem?_cons_zero, List.nil_append, List.append_nil, Nat.reduceAdd, true_and, sub_eq (cyS_le a b i)]
    rw [fev_rd (arr_idx t25 s23 rfl h4)]
    simp only [fe_cons, execOp, opd, putT, put, nth, Nat.reduceAdd]
    refine fev_arr ho hf b4 ti23 rfl h4 fun bb rr ww ho2 => ?_
    simp only [fe_nil, fe_cons, fev_pure, core1, fgr, execOp, opd, ofValue, putT, put, nth, forgetL, bor, binInt, shiftB, intOp, wrapI, Nat.reduceAdd, decide_true]
    rw [hw]
    refine ⟨(by (try simp (disch := omega) only [fine, List.all_cons, List.all_nil, clash_pl, clash_pr, clash_rr, Bool.not_false, Bool.true_or, Bool.and_true, Bool.true_and]); repeat' (first | rfl | exact (Bool.or_eq_true _ _).mpr (.inr rfl) | refine (Bool.and_eq_true _ _).mpr ⟨?_, ?_⟩)), ?_⟩
    refine ih (i + 1) _ _ _ _ _ _ (by omega) (ha.upd d2) (hb.upd d3) (arr_set ho2 rfl) (fun j hj => by rw [upd_ne _ _ hj]; exact hk j hj) (hf.upd b4)
theorem f18 (a b : Nat) (h : Hp) (n : Nat) (ha : a < b256) (hb : b < b256) (hf : Free h n) : Wp (callI env (evalW env) 18 [W a, W b]) h n fun v' h' n' => v' = .tup [W ((a + b256 - b) % b256), .bool (decide (a < b))] ∧ Old h h' n := by
  refine wp_callI ff18 fi18 ?_
  simp (disch := omega) only [fu18, Try.f18, Option.getD_some, List.replicate, core1, tyr, fgr, execOp, opd, ofValue, putT, put, nth, forgetL, zeroOf, cel, alloc, doAlloc, newRow, ended, resultOf, oneOrTup, List.cons_append, List.nil_append, List.length_cons, List.length_nil, Nat.reduceAdd, Nat.reduceSub, Nat.zero_add, List.length_cons, List.length_nil, W]
  refine loop18 _ _ a b n (n + 1) (n + 1 + 1) (n + 1 + 1 + 1) (by omega) (by omega) (by omega) _ ?_ 4 0 _ _ _ _ _ _ rfl (arr_W (by rw [upd_ne _ _ (by omega), upd_ne _ _ (by omega)]; exact upd_same _ _ _)) (arr_W (by rw [upd_ne _ _ (by omega)]; exact upd_same _ _ _)) ((arr_0 (upd_same _ _ _)).ext fun j hj => by simp) (fun _ _ => rfl) (((hf.new).new).new)
  intro h' x0 x1 x2 x3 x5 x7 x8 x9 ho hk hf'
  simp only [core1, execOp, opd, nth]
  rw [opv_rd (ho.all ti25 rfl rfl)]
  rw [range4]
  simp only [core1, execOp, opd, ofValue, putT, put, nth, bor, binInt, shiftB, intOp, gt_iff_lt, decide_true]
  refine opv_all4 ho ti25 rfl fun bb hbb => ?_
  simp only [core1, fgr, execOp, opd, putT, put, nth, forgetL, true_and, wp_pure, wp_rd (hbb.all ti25 rfl rfl), range4, pick4]
  obtain ⟨r1, r2⟩ := sub_res ha hb
  refine ⟨?_, fun j hj => ?_⟩
  · rw [r2]
    exact congrArg (fun v => AVal.tup [v, _]) r1
  · rw [upd_ne _ _ (by omega), hk j (by omega)]
    simp (disch := omega) only [upd_ne]
theorem t23 : und env 23 = M.pure (.int .u64) := rfl
theorem equal_int {E : Env} {d : Nat} {t : TypeId} {k : IntKind} {a b : Int} (hu : und E t = M.pure (.int k)) : equal E (d + 1) t (.int k a) (.int k b) = M.pure (a == b) := by
  rw [equal, hu, bind_pure]
  simp only [decide_true]
theorem equal_arr {E : Env} {d : Nat} {t e : TypeId} {n : Nat} {x y : AVal} (hu : und E t = M.pure (.array n e)) (hq : eqAt E E.eqs t = true) : equal E (d + 1) t x y = aggK (fun xs => aggK (fun ys => (sizeOf E e).bind fun n' => allM (fun i => (part E e xs (i * n')).bind fun a => (part E e ys (i * n')).bind fun b => equal E d e a b) (List.range n)) y) x := by
  conv => lhs; unfold equal
  rw [hu]
  simp only [bind_pure, hq]
theorem eq_W {a b : Nat} (ha : a < b256) (hb : b < b256) : equalTop env 25 (W a) (W b) = M.pure (decide (a = b)) := by
  have hq : eqAt env env.eqs 25 = true := rfl
  have h0 : equalTop env 25 (W a) (W b) = equal env (98 + 1 + 1) 25 (W a) (W b) := rfl
  have hr : List.range 4 = [0, 1, 2, 3] := rfl
  rw [h0, equal_arr t25 hq]
  simp only [W, aggK, s23, bind_pure, hr, allM, part, ti23, aggB, Nat.zero_mul, Nat.mul_one, getO, List.getElem?_cons_zero, List.getElem?_cons_succ, equal_int t23, Bool.and_true]
  refine congrArg M.pure ?_
  by_cases e : a = b
  · subst e; simp
  · rw [decide_eq_false e, Bool.eq_false_iff]
    intro hh
    simp only [Bool.and_eq_true, beq_iff_eq, Int.natCast_inj] at hh
    exact e (wd_inj ha hb hh.1 hh.2.1 hh.2.2.1 hh.2.2.2)
theorem eq_agg {a b : Nat} (ha : a < b256) (hb : b < b256) : equalTop env 25 (.agg [.int .u64 (wd a 0 : Nat), .int .u64 (wd a 1 : Nat), .int .u64 (wd a 2 : Nat), .int .u64 (wd a 3 : Nat)]) (.agg [.int .u64 (wd b 0 : Nat), .int .u64 (wd b 1 : Nat), .int .u64 (wd b 2 : Nat), .int .u64 (wd b 3 : Nat)]) = M.pure (decide (a = b)) := eq_W ha hb
theorem eq_agg0 {a : Nat} (ha : a < b256) : equalTop env 25 (.agg [.int .u64 (wd a 0 : Nat), .int .u64 (wd a 1 : Nat), .int .u64 (wd a 2 : Nat), .int .u64 (wd a 3 : Nat)]) (.agg [.int .u64 0, .int .u64 0, .int .u64 0, .int .u64 0]) = M.pure (decide (a = 0)) := eq_W (b := 0) ha (by decide)
theorem f39 (a : Nat) (h : Hp) (n : Nat) (ha : a < b256) : Wp (callI env (evalW env) 39 [W a]) h n fun v' h' n' => v' = .bool (decide (a = 0)) ∧ Old h h' n := by
  refine wp_callI ff39 fi39 ?_
  simp (disch := omega) only [fu39, Try.f39, Option.getD_some, List.replicate, core1, tyr, fgr, execOp, opd, ofValue, ops2, putT, put, nth, forgetL, sizeOf, bor, binOther, readCells, cellsOf, aggB, cel, alloc, newRow, getO, ended, resultOf, oneOrTup, rowK, List.cons_append, List.nil_append, List.length_cons, List.length_nil, Nat.reduceAdd, Nat.reduceSub, true_and, Nat.zero_add, wp_pure, memr, build, fill, List.take_succ_cons, List.take_zero, List.drop_zero, Nat.ble, Cont.size, Cont.sub, upd_same, Option.some.injEq, exists_eq_left', true_and, List.length_cons, List.length_nil, W, build, eq_agg0 ha]
  exact ((Old.refl _ _).upd (Nat.le_refl _))
theorem f17 (a b : Nat) (h : Hp) (n : Nat) (ha : a < b256) (hb : b < b256) (hf : Free h n) : Wp (callI env (evalW env) 17 [W a, W b]) h n fun v' h' n' => v' = .int .i64 (if a = b then 0 else if a < b then -1 else 1) ∧ Old h h' n := by
  refine wp_callI ff17 fi17 ?_
  have o1 : ∀ x y, Old h (upd (upd h n x) (n + 1) y) n := fun x y => ((Old.refl _ _).upd (Nat.le_refl _)).upd (by omega)
  by_cases e : a = b
  · subst e
    simp (disch := omega) only [fu17, Try.f17, Option.getD_some, List.replicate, core1, tyr, fgr, execOp, opd, ofValue, putT, put, nth, forgetL, bor, binOther, readCells, cellsOf, aggB, cel, alloc, newRow, ended, resultOf, oneOrTup, rowK, List.cons_append, List.nil_append, List.length_cons, List.length_nil, Nat.reduceAdd, Nat.reduceSub, ↓reduceIte, Int.reduceNeg, decide_true, true_and, Nat.zero_add, wp_pure, memr, List.take_succ_cons, List.take_zero, List.drop_zero, Nat.ble, Cont.size, Cont.sub, upd_same, upd_ne, Option.some.injEq, exists_eq_left', true_and, List.length_cons, List.length_nil, W, eq_agg ha hb]
    exact o1 _ _
  · simp (disch := omega) only [fu17, Try.f17, Option.getD_some, List.replicate, core1, tyr, fgr, hkr, execOp, opd, opds, ofValue, putT, put, nth, forgetL, doCall, callV_func, bor, binOther, readCells, cellsOf, aggB, cel, alloc, newRow, ended, resultOf, oneOrTup, rowK, List.cons_append, List.nil_append, List.append_nil, List.length_cons, List.length_nil, Nat.reduceAdd, Nat.reduceSub, ↓reduceIte, Int.reduceNeg, decide_false, true_and, Nat.zero_add, wp_pure, memr, List.take_succ_cons, List.take_zero, List.drop_zero, Nat.ble, Cont.size, Cont.sub, upd_same, upd_ne, Option.some.injEq, exists_eq_left', true_and, List.length_cons, List.length_nil, W, eq_agg ha hb, e]
    refine opv_callf (hf.new).new (f18 a b _ (n + 1 + 1) ha hb (hf.new).new) fun v0 h1 n1 hn1 hf1 ⟨e1, o2⟩ => ?_
    subst e1
    have o3 : ∀ x y, Old h (upd (upd h1 n1 x) n1 y) n := fun x y => ((((o1 _ _).trans o2 (by omega))).upd (by omega)).upd (by omega)
    by_cases l : a < b
    · simp (disch := omega) only [core1, tyr, fgr, execOp, opd, ofValue, putT, put, nth, forgetL, zeroOf, cel, alloc, doAlloc, newRow, extract, getO, rowK, List.getElem?_cons_succ, List.getElem?_cons_zero, List.length_cons, List.length_nil, Nat.reduceAdd, ↓reduceIte, Int.reduceNeg, not_false_eq_true, decide_true, Bool.and_true, true_and, Nat.zero_add, reduceCtorEq, memr, Nat.ble, writeCells, setAll, Cont.size, Cont.set, upd_same, List.all_cons, List.all_nil, Option.some.injEq, exists_eq_left', ne_eq, true_and, List.length_cons, List.length_nil, W, l]
      exact o3 _ _
    · simp (disch := omega) only [core1, tyr, fgr, execOp, opd, ofValue, putT, put, nth, forgetL, zeroOf, cel, alloc, doAlloc, newRow, extract, getO, rowK, List.getElem?_cons_succ, List.getElem?_cons_zero, List.length_cons, List.length_nil, Nat.reduceAdd, ↓reduceIte, Int.reduceNeg, not_false_eq_true, decide_false, Bool.and_true, true_and, Nat.zero_add, reduceCtorEq, memr, Nat.ble, writeCells, setAll, Cont.size, Cont.set, upd_same, List.all_cons, List.all_nil, Option.some.injEq, exists_eq_left', ne_eq, true_and, List.length_cons, List.length_nil, W, l]
      exact o3 _ _
/- Words the other way round, and moved. -/
theorem loop38 (Q : Post0) (ks : List Kf) (a i1 n : Nat) (y2 : AVal) (b1 : i1 < n) (h0 : Hp)
    (hq : ∀ (h : Hp) (x0 x3 x4 x5 : AVal), Arr .u64 h i1 4 (fun j => (18446744073709551615 - wd a j : Nat)) → (∀ j, j ≠ i1 → h j = h0 j) → Free h n → Kont env 38 none Q ks (.exit 0) (x0 :: .ptr i1 0 :: y2 :: x3 :: x4 :: x5 :: AVal.junk :: AVal.junk :: AVal.junk :: AVal.junk :: AVal.junk :: AVal.junk :: AVal.junk :: AVal.junk :: AVal.junk :: []) h n) :
    ∀ (k i : Nat) (h : Hp) (x0 x3 x5 : AVal), i + k = 4 → Arr .u64 h i1 4 (fun j => if j < i then (18446744073709551615 - wd a j : Nat) else (wd a j : Nat)) → (∀ j, j ≠ i1 → h j = h0 j) → Free h n →
    Run env 38 none Q (.loop lp38_0) ks (x0 :: .ptr i1 0 :: y2 :: x3 :: .int .i64 (i : Nat) :: x5 :: AVal.junk :: AVal.junk :: AVal.junk :: AVal.junk :: AVal.junk :: AVal.junk :: AVal.junk :: AVal.junk :: AVal.junk :: []) h n := by
  intro k
  induction k with
  | zero =>
    intro i h x0 x3 x5 hi ha hk hf
    have : i = 4 := by omega
    subst this
    have hc : ¬ ((4 : Nat) : Int) < 4 := by decide
    rw [run_loop]
    simp only [lp38_0, loopsOf, Try.f38, Option.getD_some, core1, fgr, execOp, opd, ofValue, putT, put, nth, forgetL, bor, binInt, shiftB, intOp, List.nil_append, List.append_nil, Int.cast_ofNat_Int, Int.reduceLT, decide_true, decide_false, List.getD_cons_zero]
    exact hq h _ _ _ _ (ha.ext fun j hj => if_pos hj) hk hf
  | succ k ih =>
    intro i h x0 x3 x5 hi ha hk hf
    have h4 : i < 4 := by omega
    have hc : ((i : Nat) : Int) < 4 := by omega
    have hw : IntKind.i64.wrap (((i : Nat) : Int) + 1) = ((i + 1 : Nat) : Int) := by rw [w64 (by omega) (by omega)]; omega
    rw [run_loop]
    simp only [lp38_0, loopsOf, Try.f38, Option.getD_some, core1, fgr, execOp, opd, ofValue, putT, put, nth, forgetL, bor, binInt, shiftB, intOp, List.nil_append, List.append_nil, decide_true, List.getD_cons_zero, hc]
    rw [opv_rd (arr_idx t25 s23 rfl h4)]
    simp only [core1, execOp, opd, putT, put, nth]
    rw [opv_rd (ha.load ti23 rfl h4)]
    have e0 : (if i < i then ((18446744073709551615 - wd a i : Nat) : Int) else ((wd a i : Nat) : Int)) = ((wd a i : Nat) : Int) := if_neg (Nat.lt_irrefl i)
    have hm : IntKind.u64.max = 18446744073709551615 := rfl
    have hs : IntKind.u64.signed = false := rfl
    simp only [core1, execOp, opd, putT, put, nth, intOp, wrapI, unOp, ↓reduceIte, e0, hm, hs, Bool.false_eq_true, unot (wd_lt a i)]
    rw [opv_rd (arr_idx t25 s23 rfl h4)]
    simp only [core1, execOp, opd, putT, put, nth]
    refine opv_arr ha ti23 rfl h4 fun bb hb => ?_
    simp only [core1, fgr, execOp, opd, ofValue, putT, put, nth, forgetL, bor, binInt, shiftB, intOp, wrapI, decide_true, hw]
    refine ih (i + 1) _ _ _ _ (by omega) (hb.ext fun j hj => ?_) (fun j hj => by rw [upd_ne _ _ hj]; exact hk j hj) (hf.upd b1)
    by_cases e : j = i
    · subst e; simp
    · by_cases e2 : j < i
      · simp only [if_neg e, if_pos e2, if_pos (show j < i + 1 by omega)]
      · simp only [if_neg e, if_neg e2, if_neg (show ¬ j < i + 1 by omega)]
theorem f38 (a : Nat) (h : Hp) (n : Nat) (ha : a < b256) (hf : Free h n) : Wp (callI env (evalW env) 38 [W a]) h n fun v' h' n' => v' = W (b256 - 1 - a) ∧ Old h h' n := by
  refine wp_callI ff38 fi38 ?_
  simp (disch := omega) only [fu38, Try.f38, Option.getD_some, List.replicate, core1, tyr, fgr, execOp, opd, ofValue, putT, put, nth, forgetL, zeroOf, cel, alloc, doAlloc, newRow, ended, resultOf, oneOrTup, List.cons_append, List.nil_append, List.length_cons, List.length_nil, Nat.reduceSub, Nat.zero_add, List.length_cons, List.length_nil, W]
  refine loop38 _ _ a n (n + 1 + 1) _ (by omega) _ ?_ 4 0 _ _ _ _ rfl ((arr_W (by rw [upd_ne _ _ (by omega)]; exact upd_same _ _ _)).ext fun j hj => by simp) (fun _ _ => rfl) ((hf.new).new)
  intro h' x0 x3 x4 x5 ho hk hf'
  simp only [core1, execOp, opd, nth]
  rw [opv_rd (ho.all ti25 rfl rfl), range4]
  simp only [core1, execOp, opd, putT, put, nth]
  have h2 : Arr .u64 h' (n + 1) 4 (fun _ => 0) := arr_0 ((hk _ (by omega)).trans (upd_same _ _ _))
  refine opv_all4 h2 ti25 rfl fun bb hbb => ?_
  simp only [core1, fgr, putT, nth, forgetL, true_and, wp_pure, wp_rd (hbb.all ti25 rfl rfl), range4, pick4]
  refine ⟨W_eq ?_ (by omega) (by omega) (by omega) (by omega), fun j hj => ?_⟩
  · have h1 := of4_wd ha
    have l0 := wd_lt a 0
    have l1 := wd_lt a 1
    have l2 := wd_lt a 2
    have l3 := wd_lt a 3
    unfold of4 at h1 ⊢
    unfold b256
    omega
  · rw [upd_ne _ _ (by omega), hk j (by omega)]
    simp (disch := omega) only [upd_ne]
/-- What a word is moved left. -/
def shlW (a w r i : Nat) : Nat := if i < w then 0 else if i = w then wd a 0 * 2 ^ r % 18446744073709551616 else (wd a (i - w) * 2 ^ r % 18446744073709551616) ||| (wd a (i - w - 1) / 2 ^ (64 - r))
theorem shlW_eq {a w r i : Nat} (hr : r < 64) : wd (a * 2 ^ (64 * w + r)) i = shlW a w r i := by
  unfold shlW
  by_cases h1 : i < w
  · rw [if_pos h1, wd_left_lo _ _ _ _ h1]
  · rw [if_neg h1]
    by_cases h2 : i = w
    · subst h2
      rw [if_pos rfl, wd_left0]
    · rw [if_neg h2]
      obtain ⟨j, rfl⟩ : ∃ j, i = w + (j + 1) := ⟨i - w - 1, by omega⟩
      rw [wd_left _ _ _ _ hr, show w + (j + 1) - w = j + 1 by omega, Nat.add_sub_cancel]
theorem loop20 (Q : Post0) (ks : List Kf) (a w r i2 i5 n : Nat) (y4 : AVal) (hr : r < 64) (hw4 : w < 4) (d2 : i2 ≠ i5) (b5 : i5 < n) (h0 : Hp)
    (hq : ∀ (h : Hp) (x0 x1 x2 x6 x7 x8 x10 x13 x21 x35 : AVal), Arr .u64 h i5 4 (fun j => (shlW a w r j : Nat)) → (∀ j, j ≠ i5 → h j = h0 j) → Free h n → Kont env 20 none Q ks (.exit 0) (x0 :: x1 :: x2 :: AVal.junk :: y4 :: .ptr i5 0 :: x6 :: x7 :: x8 :: AVal.junk :: x10 :: AVal.junk :: AVal.junk :: x13 :: AVal.junk :: AVal.junk :: AVal.junk :: AVal.junk :: AVal.junk :: AVal.junk :: AVal.junk :: x21 :: AVal.junk :: AVal.junk :: AVal.junk :: AVal.junk :: AVal.junk :: AVal.junk :: AVal.junk :: AVal.junk :: AVal.junk :: AVal.junk :: AVal.junk :: AVal.junk :: AVal.junk :: x35 :: AVal.junk :: AVal.junk :: AVal.junk :: AVal.junk :: AVal.junk :: AVal.junk :: AVal.junk :: AVal.junk :: AVal.junk :: AVal.junk :: AVal.junk :: AVal.junk :: AVal.junk :: AVal.junk :: AVal.junk :: []) h n) :
    ∀ (k i : Nat) (h : Hp) (x0 x1 x10 x13 x21 x35 : AVal), i + k = 4 → w ≤ i → Arr .u64 h i2 4 (fun j => (wd a j : Nat)) → Arr .u64 h i5 4 (fun j => if j < i then (shlW a w r j : Nat) else 0) → (∀ j, j ≠ i5 → h j = h0 j) → Free h n →
    Run env 20 none Q (.loop lp20_0) ks (x0 :: x1 :: .ptr i2 0 :: AVal.junk :: y4 :: .ptr i5 0 :: .int .i64 (w : Nat) :: .int .i64 (r : Nat) :: .int .i64 (i : Nat) :: AVal.junk :: x10 :: AVal.junk :: AVal.junk :: x13 :: AVal.junk :: AVal.junk :: AVal.junk :: AVal.junk :: AVal.junk :: AVal.junk :: AVal.junk :: x21 :: AVal.junk :: AVal.junk :: AVal.junk :: AVal.junk :: AVal.junk :: AVal.junk :: AVal.junk :: AVal.junk :: AVal.junk :: AVal.junk :: AVal.junk :: AVal.junk :: AVal.junk :: x35 :: AVal.junk :: AVal.junk :: AVal.junk :: AVal.junk :: AVal.junk :: AVal.junk :: AVal.junk :: AVal.junk :: AVal.junk :: AVal.junk :: AVal.junk :: AVal.junk :: AVal.junk :: AVal.junk :: AVal.junk :: []) h n := by
  intro k
  induction k with
  | zero =>
    intro i h x0 x1 x10 x13 x21 x35 hi hwi ha ho hk hf
    have : i = 4 := by omega
    subst this
    have hc : ¬ ((4 : Nat) : Int) < 4 := by decide
    rw [run_loop]
    simp only [lp20_0, loopsOf, Try.f20, Option.getD_some, core1, fgr, execOp, opd, ofValue, putT, put, nth, forgetL, bor, binInt, shiftB, intOp, List.nil_append, List.append_nil, Int.cast_ofNat_Int, Int.reduceLT, decide_true, decide_false, List.getD_cons_zero]
    exact hq h _ _ _ _ _ _ _ _ _ _ (ho.ext fun j hj => if_pos hj) hk hf
  | succ k ih =>
    intro i h x0 x1 x10 x13 x21 x35 hi hwi ha ho hk hf
    have h4 : i < 4 := by omega
    have hiw : i - w < 4 := by omega
    have hc : ((i : Nat) : Int) < 4 := by omega
    have hw : IntKind.i64.wrap (((i : Nat) : Int) + 1) = ((i + 1 : Nat) : Int) := by rw [w64 (by omega) (by omega)]; omega
    have hs : IntKind.i64.wrap (((i : Nat) : Int) - ((w : Nat) : Int)) = ((i - w : Nat) : Int) := by rw [w64 (by omega) (by omega)]; omega
    have h0r : (0 : Int) ≤ ((r : Nat) : Int) := by omega
    have key : ∀ x : Nat, (if x < i + 1 then ((shlW a w r x : Nat) : Int) else 0) = if x = i then ((shlW a w r i : Nat) : Int) else if x < i then ((shlW a w r x : Nat) : Int) else 0 := fun x => by
      by_cases e : x = i
      · subst e; simp
      · by_cases e2 : x < i
        · rw [if_pos (by omega), if_neg e, if_pos e2]
        · rw [if_neg (by omega), if_neg e, if_neg e2]
    rw [run_loop]
    simp only [lp20_0, loopsOf, Try.f20, Option.getD_some, core1, fgr, execOp, opd, ofValue, putT, put, nth, forgetL, bor, binInt, shiftB, intOp, wrapI, List.nil_append, List.append_nil, decide_true, List.getD_cons_zero, hc, hs]
    rw [opv_rd (arr_idx t25 s23 rfl hiw)]
    simp only [core1, execOp, opd, putT, put, nth]
    rw [opv_rd (ha.load ti23 rfl hiw)]
    simp only [core1, execOp, opd, putT, put, nth, bor, binInt, shiftB, shiftOp, wrapI, decide_true, true_and, h0r, ushl _ r (by omega)]
    rw [opv_rd (arr_idx t25 s23 rfl h4)]
    simp only [core1, execOp, opd, putT, put, nth]
    refine opv_arr ho ti23 rfl h4 fun bb hb => ?_
    by_cases hgt : w < i
    · have hgt2 : ((w : Nat) : Int) < ((i : Nat) : Int) := by omega
      have hs1 : IntKind.i64.wrap (((i - w : Nat) : Int) - 1) = ((i - w - 1 : Nat) : Int) := by rw [w64 (by omega) (by omega)]; omega
      have hs2 : IntKind.i64.wrap (64 - ((r : Nat) : Int)) = ((64 - r : Nat) : Int) := by rw [w64 (by omega) (by omega)]; omega
      have h0r2 : (0 : Int) ≤ ((64 - r : Nat) : Int) := by omega
      have ha2 := ha.upd (i := i5) (b := some bb) d2
      simp only [core1, fgr, execOp, opd, putT, put, nth, forgetL, bor, binInt, shiftB, intOp, gt_iff_lt, decide_true, hgt2]
      refine run_draw.2 ⟨rfl, ?_⟩
      simp only [fe_cons, fev_pure, execOp, opd, putT, put, nth, Nat.zero_add]
      rw [fev_rd (arr_idx t25 s23 rfl h4)]
      simp only [fe_cons, execOp, opd, putT, put, nth, Nat.reduceAdd]
      rw [fev_rd (hb.load ti23 rfl h4)]
      simp only [fe_cons, fev_pure, execOp, opd, ofValue, putT, put, nth, bor, binInt, shiftB, intOp, wrapI, Nat.reduceAdd, ↓reduceIte, decide_true, hs, hs1]
      rw [fev_rd (arr_idx t25 s23 rfl (show i - w - 1 < 4 by omega))]
      simp only [fe_cons, execOp, opd, putT, put, nth, Nat.reduceAdd]
      rw [fev_rd (ha2.load ti23 rfl (show i - w - 1 < 4 by omega))]
      have hlt : wd a (i - w - 1) / 2 ^ (64 - r) < 18446744073709551616 := Nat.lt_of_le_of_lt (Nat.div_le_self _ _) (wd_lt _ _)
      simp only [fe_cons, fev_ob, fev_pure, execOp, opd, ofValue, putT, put, nth, bor, binInt, shiftB, shiftOp, intOp, wrapI, Nat.reduceAdd, decide_true, true_and, hs2, h0r2, ushr _ (64 - r) (by omega), uor (Nat.mod_lt _ (by decide)) hlt]
      rw [fev_rd (arr_idx t25 s23 rfl h4)]
      simp only [fe_cons, execOp, opd, putT, put, nth, Nat.reduceAdd]
      refine fev_arr hb (hf.upd b5) b5 ti23 rfl h4 fun bb2 rr ww hb2 => ?_
      simp only [fe_nil, core1, fgr, execOp, opd, ofValue, putT, put, nth, forgetL, bor, binInt, shiftB, intOp, wrapI, Nat.reduceAdd, decide_true]
      refine ⟨(by (try simp (disch := omega) only [fine, List.all_cons, List.all_nil, clash_pl, clash_pr, clash_rr, Bool.not_false, Bool.true_or, Bool.and_true, Bool.true_and]); repeat' (first | rfl | exact (Bool.or_eq_true _ _).mpr (.inr rfl) | refine (Bool.and_eq_true _ _).mpr ⟨?_, ?_⟩)), ?_⟩
      simp only [hw]
      refine ih (i + 1) _ _ _ _ _ _ _ (by omega) (by omega) (ha2.upd d2) (hb2.ext fun j hj => ?_) (fun j hj => by rw [upd_ne _ _ hj, upd_ne _ _ hj]; exact hk j hj) ((hf.upd b5).upd b5)
      rw [key]
      by_cases e : j = i
      · simp only [if_pos e]
        unfold shlW
        rw [if_neg (by omega), if_neg (by omega)]
      · simp only [if_neg e]
    · have hgt2 : ¬ ((w : Nat) : Int) < ((i : Nat) : Int) := by omega
      have hiw2 : i = w := by omega
      simp only [core1, fgr, execOp, opd, ofValue, putT, put, nth, forgetL, bor, binInt, shiftB, intOp, wrapI, gt_iff_lt, decide_true, decide_false, hgt2, hw]
      refine ih (i + 1) _ _ _ _ _ _ _ (by omega) (by omega) (ha.upd d2) (hb.ext fun j hj => ?_) (fun j hj => by rw [upd_ne _ _ hj]; exact hk j hj) (hf.upd b5)
      rw [key]
      by_cases e : j = i
      · simp only [if_pos e]
        unfold shlW
        rw [if_neg (by omega), if_pos hiw2, hiw2, Nat.sub_self]
      · simp only [if_neg e]
/- Numbers of four words, moved. -/
def leftV (a : Nat) (z : Int) : Nat := if z ≤ 0 then a else a * 2 ^ z.toNat % b256
theorem leftV_lt {a : Nat} {z : Int} (ha : a < b256) : leftV a z < b256 := by
  unfold leftV
  split
  · exact ha
  · exact Nat.mod_lt _ (by decide)
theorem big_pow (a m : Nat) (hm : 256 ≤ m) : a * 2 ^ m % b256 = 0 := by
  have : b256 = 2 ^ 256 := by decide
  rw [this, show m = 256 + (m - 256) by omega, Nat.pow_add, Nat.mul_comm (2 ^ 256), ← Nat.mul_assoc, Nat.mul_mod_left]
theorem f20 (a : Nat) (z : Int) (h : Hp) (n : Nat) (ha : a < b256) (hf : Free h n) : Wp (callI env (evalW env) 20 [W a, .int .i64 z]) h n fun v' h' n' => v' = W (leftV a z) ∧ Old h h' n := by
  refine wp_callI ff20 fi20 ?_
  by_cases h0 : z ≤ 0
  · have e : leftV a z = a := if_pos h0
    simp (disch := omega) only [fu20, Try.f20, Option.getD_some, List.replicate, core1, tyr, fgr, execOp, opd, ofValue, putT, put, nth, forgetL, zeroOf, bor, binInt, shiftB, intOp, readCells, cellsOf, aggB, cel, alloc, doAlloc, newRow, ended, resultOf, oneOrTup, rowK, List.cons_append, List.nil_append, List.length_cons, List.length_nil, Nat.reduceAdd, Nat.reduceSub, not_false_eq_true, decide_true, Bool.and_true, true_and, Nat.zero_add, wp_pure, reduceCtorEq, memr, List.take_succ_cons, List.take_zero, List.drop_zero, Nat.ble, writeCells, setAll, Cont.size, Cont.set, Cont.sub, upd_same, upd_ne, List.all_cons, List.all_nil, Option.some.injEq, exists_eq_left', ne_eq, true_and, List.length_cons, List.length_nil, W, h0, wp_get, wp_ob]
    rw [e]
    exact ⟨by trivial, fun j hj => by simp (disch := omega) only [upd_ne]⟩
  · obtain ⟨m, rfl⟩ := Int.eq_ofNat_of_zero_le (show 0 ≤ z by omega)
    have e : leftV a (m : Int) = a * 2 ^ m % b256 := by unfold leftV; rw [if_neg h0, Int.toNat_natCast]
    have h0' : ¬ ((m : Nat) : Int) ≤ 0 := h0
    rw [e]
    by_cases h1 : (256 : Int) ≤ ((m : Nat) : Int)
    · simp (disch := omega) only [fu20, Try.f20, Option.getD_some, List.replicate, core1, tyr, fgr, execOp, opd, ofValue, putT, put, nth, forgetL, zeroOf, bor, binInt, shiftB, intOp, readCells, cellsOf, aggB, cel, alloc, doAlloc, newRow, ended, resultOf, oneOrTup, rowK, List.cons_append, List.nil_append, List.length_cons, List.length_nil, Nat.reduceAdd, Nat.reduceSub, ge_iff_le, not_false_eq_true, decide_true, decide_false, Bool.and_true, true_and, Nat.zero_add, wp_pure, reduceCtorEq, memr, List.take_succ_cons, List.take_zero, List.drop_zero, Nat.ble, writeCells, setAll, Cont.size, Cont.set, Cont.sub, upd_same, upd_ne, List.all_cons, List.all_nil, Option.some.injEq, exists_eq_left', ne_eq, true_and, List.length_cons, List.length_nil, W, h0', h1, wp_get, wp_ob]
      rw [big_pow _ _ (by omega)]
      exact ⟨rfl, fun j hj => by simp (disch := omega) only [upd_ne]⟩
    · have hm : m < 256 := by omega
      have q1 : IntKind.i64.wrap (Int.tdiv ((m : Nat) : Int) 64) = ((m / 64 : Nat) : Int) := by rw [Int.tdiv_eq_ediv_of_nonneg (by omega), w64 (by omega) (by omega)]; omega
      have q2 : Int.tmod ((m : Nat) : Int) 64 = ((m % 64 : Nat) : Int) := by rw [Int.tmod_eq_emod_of_nonneg (by omega)]; omega
      simp (disch := omega) only [fu20, Try.f20, Option.getD_some, List.replicate, core1, tyr, fgr, execOp, opd, ofValue, putT, put, nth, forgetL, zeroOf, bor, binInt, shiftB, intOp, wrapI, cel, alloc, doAlloc, newRow, ended, resultOf, oneOrTup, List.cons_append, List.nil_append, List.length_cons, List.length_nil, Nat.reduceAdd, Nat.reduceSub, Int.reduceEq, ge_iff_le, not_false_eq_true, decide_true, decide_false, true_and, Nat.zero_add, ne_eq, true_and, List.length_cons, List.length_nil, W, h0', h1, q1, q2]
      refine loop20 _ _ a (m / 64) (m % 64) n (n + 1 + 1) (n + 1 + 1 + 1) _ (by omega) (by omega) (by omega) (by omega) _ ?_ (4 - m / 64) (m / 64) _ _ _ _ _ _ _ (by omega) (Nat.le_refl _) (arr_W (by simp (disch := omega) only [upd_ne]; exact upd_same _ _ _)) ((arr_0 (upd_same _ _ _)).ext fun j hj => ?_) (fun _ _ => rfl) (((hf.new).new).new)
      · intro h' x0 x1 x2 x6 x7 x8 x10 x13 x21 x35 ho hk hf'
        simp only [core1, execOp, opd, nth]
        rw [opv_rd (ho.all ti25 rfl rfl), range4]
        simp only [core1, execOp, opd, putT, put, nth]
        have h4 : Arr .u64 h' (n + 1) 4 (fun _ => 0) := arr_0 ((hk _ (by omega)).trans (by simp (disch := omega) only [upd_ne]; exact upd_same _ _ _))
        refine opv_all4 h4 ti25 rfl fun bb hbb => ?_
        simp only [core1, fgr, putT, nth, forgetL, true_and, wp_pure, wp_rd (hbb.all ti25 rfl rfl), range4, pick4]
        have hr : m % 64 < 64 := Nat.mod_lt _ (by decide)
        have hm64 : 64 * (m / 64) + m % 64 = m := Nat.div_add_mod m 64
        refine ⟨?_, fun j hj => ?_⟩
        · rw [wd_mod _ 0 (by decide), wd_mod _ 1 (by decide), wd_mod _ 2 (by decide), wd_mod _ 3 (by decide)]
          have q : ∀ i, wd (a * 2 ^ m) i = shlW a (m / 64) (m % 64) i := fun i => by
            have := shlW_eq (a := a) (w := m / 64) (i := i) hr
            rwa [hm64] at this
          rw [q, q, q, q]
        · rw [upd_ne _ _ (by omega), hk j (by omega)]
          simp (disch := omega) only [upd_ne]
      · by_cases hj2 : j < m / 64
        · rw [if_pos hj2]
          unfold shlW
          rw [if_pos hj2]; rfl
        · rw [if_neg hj2]
/- Numbers of four words, moved right. -/
theorem loop51 (Q : Post0) (ks : List Kf) (a w r i2 i5 n : Nat) (y4 : AVal) (ha' : a < b256) (hr : r < 64) (hw4 : w < 4) (d2 : i2 ≠ i5) (b5 : i5 < n) (h0 : Hp)
    (hq : ∀ (h : Hp) (x0 x1 x2 x6 x7 x8 x10 x13 x21 x35 : AVal), Arr .u64 h i5 4 (fun j => (wd (a / 2 ^ (64 * w + r)) j : Nat)) → (∀ j, j ≠ i5 → h j = h0 j) → Free h n → Kont env 51 none Q ks (.exit 0) (x0 :: x1 :: x2 :: AVal.junk :: y4 :: .ptr i5 0 :: x6 :: x7 :: x8 :: AVal.junk :: x10 :: AVal.junk :: AVal.junk :: x13 :: AVal.junk :: AVal.junk :: AVal.junk :: AVal.junk :: AVal.junk :: AVal.junk :: AVal.junk :: x21 :: AVal.junk :: AVal.junk :: AVal.junk :: AVal.junk :: AVal.junk :: AVal.junk :: AVal.junk :: AVal.junk :: AVal.junk :: AVal.junk :: AVal.junk :: AVal.junk :: AVal.junk :: x35 :: AVal.junk :: AVal.junk :: AVal.junk :: AVal.junk :: AVal.junk :: AVal.junk :: AVal.junk :: AVal.junk :: AVal.junk :: AVal.junk :: AVal.junk :: AVal.junk :: AVal.junk :: AVal.junk :: AVal.junk :: []) h n) :
    ∀ (k i : Nat) (h : Hp) (x0 x1 x10 x13 x21 x35 : AVal), i + k = 4 → w ≤ i → Arr .u64 h i2 4 (fun j => (wd a j : Nat)) → Arr .u64 h i5 4 (fun j => if j < i - w then (wd (a / 2 ^ (64 * w + r)) j : Nat) else 0) → (∀ j, j ≠ i5 → h j = h0 j) → Free h n →
    Run env 51 none Q (.loop lp51_0) ks (x0 :: x1 :: .ptr i2 0 :: AVal.junk :: y4 :: .ptr i5 0 :: .int .i64 (w : Nat) :: .int .i64 (r : Nat) :: .int .i64 (i : Nat) :: AVal.junk :: x10 :: AVal.junk :: AVal.junk :: x13 :: AVal.junk :: AVal.junk :: AVal.junk :: AVal.junk :: AVal.junk :: AVal.junk :: AVal.junk :: x21 :: AVal.junk :: AVal.junk :: AVal.junk :: AVal.junk :: AVal.junk :: AVal.junk :: AVal.junk :: AVal.junk :: AVal.junk :: AVal.junk :: AVal.junk :: AVal.junk :: AVal.junk :: x35 :: AVal.junk :: AVal.junk :: AVal.junk :: AVal.junk :: AVal.junk :: AVal.junk :: AVal.junk :: AVal.junk :: AVal.junk :: AVal.junk :: AVal.junk :: AVal.junk :: AVal.junk :: AVal.junk :: AVal.junk :: []) h n := by
  intro k
  induction k with
  | zero =>
    intro i h x0 x1 x10 x13 x21 x35 hi hwi ha ho hk hf
    have : i = 4 := by omega
    subst this
    have hc : ¬ ((4 : Nat) : Int) < 4 := by decide
    rw [run_loop]
    simp only [lp51_0, loopsOf, Try.f51, Option.getD_some, core1, fgr, execOp, opd, ofValue, putT, put, nth, forgetL, bor, binInt, shiftB, intOp, List.nil_append, List.append_nil, Int.cast_ofNat_Int, Int.reduceLT, decide_true, decide_false, List.getD_cons_zero]
    refine hq h _ _ _ _ _ _ _ _ _ _ (ho.ext fun j hj => ?_) hk hf
    by_cases e : j < 4 - w
    · rw [if_pos e]
    · rw [if_neg e, wd_right _ _ _ _ hr, wd_hi a (j + w) ha' (by omega), wd_hi a (j + w + 1) ha' (by omega)]; simp
  | succ k ih =>
    intro i h x0 x1 x10 x13 x21 x35 hi hwi ha ho hk hf
    have h4 : i < 4 := by omega
    have hiw : i - w < 4 := by omega
    have hc : ((i : Nat) : Int) < 4 := by omega
    have hw : IntKind.i64.wrap (((i : Nat) : Int) + 1) = ((i + 1 : Nat) : Int) := by rw [w64 (by omega) (by omega)]; omega
    have hs : IntKind.i64.wrap (((i : Nat) : Int) - ((w : Nat) : Int)) = ((i - w : Nat) : Int) := by rw [w64 (by omega) (by omega)]; omega
    have h0r : (0 : Int) ≤ ((r : Nat) : Int) := by omega
    have hri := wd_right a w r (i - w) hr
    rw [show i - w + w = i by omega] at hri
    have key : ∀ x : Nat, (if x < i + 1 - w then ((wd (a / 2 ^ (64 * w + r)) x : Nat) : Int) else 0) = if x = i - w then ((wd (a / 2 ^ (64 * w + r)) (i - w) : Nat) : Int) else if x < i - w then ((wd (a / 2 ^ (64 * w + r)) x : Nat) : Int) else 0 := fun x => by
      by_cases e : x = i - w
      · subst e; rw [if_pos (by omega), if_pos rfl]
      · by_cases e2 : x < i - w
        · rw [if_pos (by omega), if_neg e, if_pos e2]
        · rw [if_neg (by omega), if_neg e, if_neg e2]
    rw [run_loop]
    simp only [lp51_0, loopsOf, Try.f51, Option.getD_some, core1, fgr, execOp, opd, ofValue, putT, put, nth, forgetL, bor, binInt, shiftB, intOp, wrapI, List.nil_append, List.append_nil, decide_true, List.getD_cons_zero, hc, hs]
    rw [opv_rd (arr_idx t25 s23 rfl h4)]
    simp only [core1, execOp, opd, putT, put, nth]
    rw [opv_rd (ha.load ti23 rfl h4)]
    simp only [core1, execOp, opd, putT, put, nth, bor, binInt, shiftB, shiftOp, decide_true, true_and, h0r, ushr _ r (by omega)]
    rw [opv_rd (arr_idx t25 s23 rfl hiw)]
    simp only [core1, execOp, opd, putT, put, nth]
    refine opv_arr ho ti23 rfl hiw fun bb hb => ?_
    by_cases hgt : i + 1 < 4
    · have hgt2 : ((i + 1 : Nat) : Int) < 4 := by omega
      have hs2 : IntKind.i64.wrap (64 - ((r : Nat) : Int)) = ((64 - r : Nat) : Int) := by rw [w64 (by omega) (by omega)]; omega
      have h0r2 : (0 : Int) ≤ ((64 - r : Nat) : Int) := by omega
      have ha2 := ha.upd (i := i5) (b := some bb) d2
      simp only [core1, fgr, execOp, opd, ofValue, putT, put, nth, forgetL, bor, binInt, shiftB, intOp, wrapI, decide_true, hw, hgt2]
      refine run_draw.2 ⟨rfl, ?_⟩
      simp only [fe_cons, fev_pure, execOp, opd, putT, put, nth, bor, binInt, shiftB, intOp, wrapI, Nat.reduceAdd, decide_true, Nat.zero_add, hs]
      rw [fev_rd (arr_idx t25 s23 rfl hiw)]
      simp only [fe_cons, execOp, opd, putT, put, nth, Nat.reduceAdd]
      rw [fev_rd (hb.load ti23 rfl hiw)]
      simp only [fe_cons, fev_pure, execOp, opd, ofValue, putT, put, nth, bor, binInt, shiftB, intOp, wrapI, Nat.reduceAdd, ↓reduceIte, decide_true, hw]
      rw [fev_rd (arr_idx t25 s23 rfl hgt)]
      simp only [fe_cons, execOp, opd, putT, put, nth, Nat.reduceAdd]
      rw [fev_rd (ha2.load ti23 rfl hgt)]
      have hlt : wd a i / 2 ^ r < 18446744073709551616 := Nat.lt_of_le_of_lt (Nat.div_le_self _ _) (wd_lt _ _)
      simp only [fe_cons, fev_ob, fev_pure, execOp, opd, ofValue, putT, put, nth, bor, binInt, shiftB, shiftOp, intOp, wrapI, Nat.reduceAdd, decide_true, true_and, hs2, h0r2, ushl _ (64 - r) (by omega), uor hlt (Nat.mod_lt _ (by decide))]
      rw [fev_rd (arr_idx t25 s23 rfl hiw)]
      simp only [fe_cons, execOp, opd, putT, put, nth, Nat.reduceAdd]
      refine fev_arr hb (hf.upd b5) b5 ti23 rfl hiw fun bb2 rr ww hb2 => ?_
      simp only [fe_nil, core1, fgr, execOp, opd, ofValue, putT, put, nth, forgetL, bor, binInt, shiftB, intOp, wrapI, Nat.reduceAdd, decide_true]
      refine ⟨(by (try simp (disch := omega) only [fine, List.all_cons, List.all_nil, clash_pl, clash_pr, clash_rr, Bool.not_false, Bool.true_or, Bool.and_true, Bool.true_and]); repeat' (first | rfl | exact (Bool.or_eq_true _ _).mpr (.inr rfl) | refine (Bool.and_eq_true _ _).mpr ⟨?_, ?_⟩)), ?_⟩
      simp only [hw]
      refine ih (i + 1) _ _ _ _ _ _ _ (by omega) (by omega) (ha2.upd d2) (hb2.ext fun j hj => ?_) (fun j hj => by rw [upd_ne _ _ hj, upd_ne _ _ hj]; exact hk j hj) ((hf.upd b5).upd b5)
      rw [key]
      by_cases e : j = i - w
      · simp only [if_pos e]
        rw [hri]
      · simp only [if_neg e]
    · have hgt2 : ¬ ((i + 1 : Nat) : Int) < 4 := by omega
      simp only [core1, fgr, execOp, opd, ofValue, putT, put, nth, forgetL, bor, binInt, shiftB, intOp, wrapI, decide_true, decide_false, hw, hgt2]
      refine ih (i + 1) _ _ _ _ _ _ _ (by omega) (by omega) (ha.upd d2) (hb.ext fun j hj => ?_) (fun j hj => by rw [upd_ne _ _ hj]; exact hk j hj) (hf.upd b5)
      rw [key]
      by_cases e : j = i - w
      · simp only [if_pos e]
        rw [hri, wd_hi a (i + 1) ha' (by omega)]; simp
      · simp only [if_neg e]
def rightV (a : Nat) (z : Int) : Nat := if z ≤ 0 then a else a / 2 ^ z.toNat
theorem f51 (a : Nat) (z : Int) (h : Hp) (n : Nat) (ha : a < b256) (hf : Free h n) : Wp (callI env (evalW env) 51 [W a, .int .i64 z]) h n fun v' h' n' => v' = W (rightV a z) ∧ Old h h' n := by
  refine wp_callI ff51 fi51 ?_
  by_cases h0 : z ≤ 0
  · have e : rightV a z = a := if_pos h0
    simp (disch := omega) only [fu51, Try.f51, Option.getD_some, List.replicate, core1, tyr, fgr, execOp, opd, ofValue, putT, put, nth, forgetL, zeroOf, bor, binInt, shiftB, intOp, readCells, cellsOf, aggB, cel, alloc, doAlloc, newRow, ended, resultOf, oneOrTup, rowK, List.cons_append, List.nil_append, List.length_cons, List.length_nil, Nat.reduceAdd, Nat.reduceSub, not_false_eq_true, decide_true, Bool.and_true, true_and, Nat.zero_add, wp_pure, reduceCtorEq, memr, List.take_succ_cons, List.take_zero, List.drop_zero, Nat.ble, writeCells, setAll, Cont.size, Cont.set, Cont.sub, upd_same, upd_ne, List.all_cons, List.all_nil, Option.some.injEq, exists_eq_left', ne_eq, true_and, List.length_cons, List.length_nil, W, h0, wp_get, wp_ob]
    rw [e]
    exact ⟨by trivial, fun j hj => by simp (disch := omega) only [upd_ne]⟩
  · obtain ⟨m, rfl⟩ := Int.eq_ofNat_of_zero_le (show 0 ≤ z by omega)
    have e : rightV a (m : Int) = a / 2 ^ m := by unfold rightV; rw [if_neg h0, Int.toNat_natCast]
    have h0' : ¬ ((m : Nat) : Int) ≤ 0 := h0
    rw [e]
    by_cases h1 : (256 : Int) ≤ ((m : Nat) : Int)
    · simp (disch := omega) only [fu51, Try.f51, Option.getD_some, List.replicate, core1, tyr, fgr, execOp, opd, ofValue, putT, put, nth, forgetL, zeroOf, bor, binInt, shiftB, intOp, readCells, cellsOf, aggB, cel, alloc, doAlloc, newRow, ended, resultOf, oneOrTup, rowK, List.cons_append, List.nil_append, List.length_cons, List.length_nil, Nat.reduceAdd, Nat.reduceSub, ge_iff_le, not_false_eq_true, decide_true, decide_false, Bool.and_true, true_and, Nat.zero_add, wp_pure, reduceCtorEq, memr, List.take_succ_cons, List.take_zero, List.drop_zero, Nat.ble, writeCells, setAll, Cont.size, Cont.set, Cont.sub, upd_same, upd_ne, List.all_cons, List.all_nil, Option.some.injEq, exists_eq_left', ne_eq, true_and, List.length_cons, List.length_nil, W, h0', h1, wp_get, wp_ob]
      have : a / 2 ^ m = 0 := Nat.div_eq_of_lt (Nat.lt_of_lt_of_le ha (show b256 ≤ 2 ^ m from Nat.le_trans (show b256 ≤ 2 ^ 256 by decide) (Nat.pow_le_pow_right (by decide) (by omega))))
      rw [this]
      exact ⟨rfl, fun j hj => by simp (disch := omega) only [upd_ne]⟩
    · have hm : m < 256 := by omega
      have q1 : IntKind.i64.wrap (Int.tdiv ((m : Nat) : Int) 64) = ((m / 64 : Nat) : Int) := by rw [Int.tdiv_eq_ediv_of_nonneg (by omega), w64 (by omega) (by omega)]; omega
      have q2 : Int.tmod ((m : Nat) : Int) 64 = ((m % 64 : Nat) : Int) := by rw [Int.tmod_eq_emod_of_nonneg (by omega)]; omega
      simp (disch := omega) only [fu51, Try.f51, Option.getD_some, List.replicate, core1, tyr, fgr, execOp, opd, ofValue, putT, put, nth, forgetL, zeroOf, bor, binInt, shiftB, intOp, wrapI, cel, alloc, doAlloc, newRow, ended, resultOf, oneOrTup, List.cons_append, List.nil_append, List.length_cons, List.length_nil, Nat.reduceAdd, Nat.reduceSub, Int.reduceEq, ge_iff_le, not_false_eq_true, decide_true, decide_false, true_and, Nat.zero_add, ne_eq, true_and, List.length_cons, List.length_nil, W, h0', h1, q1, q2]
      refine loop51 _ _ a (m / 64) (m % 64) n (n + 1 + 1) (n + 1 + 1 + 1) _ ha (by omega) (by omega) (by omega) (by omega) _ ?_ (4 - m / 64) (m / 64) _ _ _ _ _ _ _ (by omega) (Nat.le_refl _) (arr_W (by simp (disch := omega) only [upd_ne]; exact upd_same _ _ _)) ((arr_0 (upd_same _ _ _)).ext fun j hj => by rw [Nat.sub_self, if_neg (Nat.not_lt_zero j)]) (fun _ _ => rfl) (((hf.new).new).new)
      intro h' x0 x1 x2 x6 x7 x8 x10 x13 x21 x35 ho hk hf'
      simp only [core1, execOp, opd, nth]
      rw [opv_rd (ho.all ti25 rfl rfl), range4]
      simp only [core1, execOp, opd, putT, put, nth]
      have h4 : Arr .u64 h' (n + 1) 4 (fun _ => 0) := arr_0 ((hk _ (by omega)).trans (by simp (disch := omega) only [upd_ne]; exact upd_same _ _ _))
      refine opv_all4 h4 ti25 rfl fun bb hbb => ?_
      simp only [core1, fgr, putT, nth, forgetL, true_and, wp_pure, wp_rd (hbb.all ti25 rfl rfl), range4, pick4]
      have hm64 : 64 * (m / 64) + m % 64 = m := Nat.div_add_mod m 64
      rw [hm64]
      refine ⟨by trivial, fun j hj => ?_⟩
      rw [upd_ne _ _ (by omega), hk j (by omega)]
      simp (disch := omega) only [upd_ne]
/- How long numbers are. -/
theorem ushr16 (x : Nat) : Int.fdiv (x : Int) (2 ^ (min (Int.toNat 16) IntKind.u64.bits)) = ((x / 65536 : Nat) : Int) := ushr x 16 (by decide)
theorem ushr8 (x : Nat) : Int.fdiv (x : Int) (2 ^ (min (Int.toNat 8) IntKind.u64.bits)) = ((x / 256 : Nat) : Int) := ushr x 8 (by decide)
def tb8 : List UInt8 := [0, 1, 2, 2, 3, 3, 3, 3, 4, 4, 4, 4, 4, 4, 4, 4, 5, 5, 5, 5, 5, 5, 5, 5, 5, 5, 5, 5, 5, 5, 5, 5, 6, 6, 6, 6, 6, 6, 6, 6, 6, 6, 6, 6, 6, 6, 6, 6, 6, 6, 6, 6, 6, 6, 6, 6, 6, 6, 6, 6, 6, 6, 6, 6, 7, 7, 7, 7, 7, 7, 7, 7, 7, 7, 7, 7, 7, 7, 7, 7, 7, 7, 7, 7, 7, 7, 7, 7, 7, 7, 7, 7, 7, 7, 7, 7, 7, 7, 7, 7, 7, 7, 7, 7, 7, 7, 7, 7, 7, 7, 7, 7, 7, 7, 7, 7, 7, 7, 7, 7, 7, 7, 7, 7, 7, 7, 7, 7, 8, 8, 8, 8, 8, 8, 8, 8, 8, 8, 8, 8, 8, 8, 8, 8, 8, 8, 8, 8, 8, 8, 8, 8, 8, 8, 8, 8, 8, 8, 8, 8, 8, 8, 8, 8, 8, 8, 8, 8, 8, 8, 8, 8, 8, 8, 8, 8, 8, 8, 8, 8, 8, 8, 8, 8, 8, 8, 8, 8, 8, 8, 8, 8, 8, 8, 8, 8, 8, 8, 8, 8, 8, 8, 8, 8, 8, 8, 8, 8, 8, 8, 8, 8, 8, 8, 8, 8, 8, 8, 8, 8, 8, 8, 8, 8, 8, 8, 8, 8, 8, 8, 8, 8, 8, 8, 8, 8, 8, 8, 8, 8, 8, 8, 8, 8, 8, 8, 8, 8, 8, 8, 8, 8, 8, 8, 8, 8]
theorem tb8_ok : ∀ x, x < 256 → (byteAt tb8 x).toNat ≤ 8 ∧ x < 2 ^ (byteAt tb8 x).toNat := by decide
theorem len_fin {a y s : Nat} (hy : y < 256) (hs : s ≤ 56) (ha : a / 2 ^ s = y) :
    decide (0 ≤ IntKind.u8.wrap ((y : Nat) : Int) ∧ IntKind.u8.wrap ((y : Nat) : Int) < 256) = true ∧ ∃ L : Nat, AVal.int .i64 (IntKind.i64.wrap (((s : Nat) : Int) + IntKind.i64.wrap ((byteAt tb8 (IntKind.u8.wrap ((y : Nat) : Int)).toNat).toNat : Int))) = .int .i64 (L : Nat) ∧ L ≤ 64 ∧ a < 2 ^ L := by
  have e : IntKind.u8.wrap ((y : Nat) : Int) = ((y : Nat) : Int) := by rw [IntKind.wrap_u8]; omega
  obtain ⟨h1, h2⟩ := tb8_ok y hy
  rw [e]
  refine ⟨decide_eq_true ⟨by omega, by omega⟩, s + (byteAt tb8 y).toNat, ?_, by omega, ?_⟩
  · have e2 : IntKind.i64.wrap ((byteAt tb8 y).toNat : Int) = ((byteAt tb8 y).toNat : Int) := w64 (by omega) (by omega)
    rw [Int.toNat_natCast, e2, w64 (by omega) (by omega)]; rfl
  · rw [Nat.pow_add, Nat.mul_comm]
    exact (Nat.div_lt_iff_lt_mul (Nat.two_pow_pos _)).1 (by rw [ha]; exact h2)
theorem f71 (a : Nat) (h : Hp) (n : Nat) (ha : a < 18446744073709551616) : Wp (callI env (evalW env) 71 [.int .u64 (a : Nat)]) h n fun v' h' n' => (∃ L : Nat, v' = .int .i64 (L : Nat) ∧ L ≤ 64 ∧ a < 2 ^ L) ∧ h' = h ∧ n' = n := by
  refine wp_callI ff71 fi71 ?_
  by_cases i32 : (4294967296 : Int) ≤ ((a : Nat) : Int)
  · by_cases i16 : (65536 : Int) ≤ ((a / 4294967296 : Nat) : Int)
    · by_cases i8 : (256 : Int) ≤ ((a / 4294967296 / 65536 : Nat) : Int)
      · simp (disch := omega) only [fu71, Try.f71, Option.getD_some, List.replicate, core1, tyr, fgr, execOp, opd, ofValue, putT, put, nth, forgetL, und, lenOf, bor, binInt, shiftB, shiftOp, intOp, wrapI, strK, intK, aggK, idx, ended, resultOf, oneOrTup, index, List.append_eq, List.cons_append, List.nil_append, List.length_cons, List.length_nil, Nat.reduceAdd, Nat.reduceSub, Int.cast_ofNat_Int, Int.reduceLE, Int.reduceAdd, ge_iff_le, decide_true, and_true, true_and, and_self, Nat.zero_add, wp_pure, convert, convStr, isU8, i32, i16, i8, ushr32, ushr16, ushr8, w64]
        exact len_fin (a := a) (y := a / 4294967296 / 65536 / 256) (s := 56) (by omega) (by omega) (by omega)
      · simp (disch := omega) only [fu71, Try.f71, Option.getD_some, List.replicate, core1, tyr, fgr, execOp, opd, ofValue, putT, put, nth, forgetL, und, lenOf, bor, binInt, shiftB, shiftOp, intOp, wrapI, strK, intK, aggK, idx, ended, resultOf, oneOrTup, index, List.append_eq, List.cons_append, List.nil_append, List.length_cons, List.length_nil, Nat.reduceAdd, Nat.reduceSub, Int.cast_ofNat_Int, Int.reduceLE, Int.reduceAdd, ge_iff_le, decide_true, decide_false, and_true, true_and, and_self, Nat.zero_add, wp_pure, convert, convStr, isU8, i32, i16, i8, ushr32, ushr16, w64]
        exact len_fin (a := a) (y := a / 4294967296 / 65536) (s := 48) (by omega) (by omega) (by omega)
    · by_cases i8 : (256 : Int) ≤ ((a / 4294967296 : Nat) : Int)
      · simp (disch := omega) only [fu71, Try.f71, Option.getD_some, List.replicate, core1, tyr, fgr, execOp, opd, ofValue, putT, put, nth, forgetL, und, lenOf, bor, binInt, shiftB, shiftOp, intOp, wrapI, strK, intK, aggK, idx, ended, resultOf, oneOrTup, index, List.append_eq, List.cons_append, List.nil_append, List.length_cons, List.length_nil, Nat.reduceAdd, Nat.reduceSub, Int.cast_ofNat_Int, Int.reduceLE, Int.reduceAdd, ge_iff_le, decide_true, decide_false, and_true, true_and, and_self, Nat.zero_add, wp_pure, convert, convStr, isU8, i32, i16, i8, ushr32, ushr8, w64]
        exact len_fin (a := a) (y := a / 4294967296 / 256) (s := 40) (by omega) (by omega) (by omega)
      · simp (disch := omega) only [fu71, Try.f71, Option.getD_some, List.replicate, core1, tyr, fgr, execOp, opd, ofValue, putT, put, nth, forgetL, und, lenOf, bor, binInt, shiftB, shiftOp, intOp, wrapI, strK, intK, aggK, idx, ended, resultOf, oneOrTup, index, List.append_eq, List.cons_append, List.nil_append, List.length_cons, List.length_nil, Nat.reduceAdd, Nat.reduceSub, Int.cast_ofNat_Int, Int.reduceLE, ge_iff_le, decide_true, decide_false, and_true, true_and, and_self, Nat.zero_add, wp_pure, convert, convStr, isU8, i32, i16, i8, ushr32]
        exact len_fin (a := a) (y := a / 4294967296) (s := 32) (by omega) (by omega) (by omega)
  · by_cases i16 : (65536 : Int) ≤ ((a : Nat) : Int)
    · by_cases i8 : (256 : Int) ≤ ((a / 65536 : Nat) : Int)
      · simp (disch := omega) only [fu71, Try.f71, Option.getD_some, List.replicate, core1, tyr, fgr, execOp, opd, ofValue, putT, put, nth, forgetL, und, lenOf, bor, binInt, shiftB, shiftOp, intOp, wrapI, strK, intK, aggK, idx, ended, resultOf, oneOrTup, index, List.append_eq, List.cons_append, List.nil_append, List.length_cons, List.length_nil, Nat.reduceAdd, Nat.reduceSub, Int.cast_ofNat_Int, Int.reduceLE, Int.reduceAdd, ge_iff_le, decide_true, decide_false, and_true, true_and, and_self, Nat.zero_add, wp_pure, convert, convStr, isU8, i32, i16, i8, ushr16, ushr8, w64]
        exact len_fin (a := a) (y := a / 65536 / 256) (s := 24) (by omega) (by omega) (by omega)
      · simp (disch := omega) only [fu71, Try.f71, Option.getD_some, List.replicate, core1, tyr, fgr, execOp, opd, ofValue, putT, put, nth, forgetL, und, lenOf, bor, binInt, shiftB, shiftOp, intOp, wrapI, strK, intK, aggK, idx, ended, resultOf, oneOrTup, index, List.append_eq, List.cons_append, List.nil_append, List.length_cons, List.length_nil, Nat.reduceAdd, Nat.reduceSub, Int.cast_ofNat_Int, Int.reduceLE, Int.reduceAdd, ge_iff_le, decide_true, decide_false, and_true, true_and, and_self, Nat.zero_add, wp_pure, convert, convStr, isU8, i32, i16, i8, ushr16, w64]
        exact len_fin (a := a) (y := a / 65536) (s := 16) (by omega) (by omega) (by omega)
    · by_cases i8 : (256 : Int) ≤ ((a : Nat) : Int)
      · simp (disch := omega) only [fu71, Try.f71, Option.getD_some, List.replicate, core1, tyr, fgr, execOp, opd, ofValue, putT, put, nth, forgetL, und, lenOf, bor, binInt, shiftB, shiftOp, intOp, wrapI, strK, intK, aggK, idx, ended, resultOf, oneOrTup, index, List.append_eq, List.cons_append, List.nil_append, List.length_cons, List.length_nil, Nat.reduceAdd, Nat.reduceSub, Int.cast_ofNat_Int, Int.reduceLE, Int.reduceAdd, ge_iff_le, decide_true, decide_false, and_true, true_and, and_self, Nat.zero_add, wp_pure, convert, convStr, isU8, i32, i16, i8, ushr8, w64]
        exact len_fin (a := a) (y := a / 256) (s := 8) (by omega) (by omega) (by omega)
      · simp (disch := omega) only [fu71, Try.f71, Option.getD_some, List.replicate, core1, tyr, fgr, execOp, opd, ofValue, putT, put, nth, forgetL, und, lenOf, bor, binInt, shiftB, intOp, wrapI, strK, intK, aggK, idx, ended, resultOf, oneOrTup, index, List.append_eq, List.cons_append, List.nil_append, List.length_cons, List.length_nil, Nat.reduceAdd, Nat.reduceSub, Int.cast_ofNat_Int, ge_iff_le, decide_true, decide_false, and_true, true_and, and_self, Nat.zero_add, wp_pure, convert, convStr, isU8, i32, i16, i8]
        exact len_fin (a := a) (y := a) (s := 0) (by omega) (by omega) (by omega)
/- How long numbers of four words are. -/
theorem idx_W {a i : Nat} (hi : i < 4) {h : Hp} {n : Nat} : Rd (index env 25 (W a) (.int .i64 (i : Nat))) h n [] (.int .u64 (wd a i : Nat)) := by
  simp only [index, t25, bind_pure, intK, W, aggK, idx, bind_assoc, s23, part, ti23, aggB, Int.toNat_natCast, Nat.mul_one]
  refine Rd.bind (i2 := []) (Rd.ob (by simp; omega)) ?_
  match i, hi with
  | 0, _ => exact Rd.pure _
  | 1, _ => exact Rd.pure _
  | 2, _ => exact Rd.pure _
  | 3, _ => exact Rd.pure _
theorem low_succ (a i : Nat) : a % 2 ^ (64 * (i + 1)) = wd a i * 2 ^ (64 * i) + a % 2 ^ (64 * i) := by
  rw [pow64, Nat.mod_mul, Nat.mul_comm (2 ^ (64 * i)), Nat.add_comm]; rfl
theorem loop70 (Q : Post0) (ks : List Kf) (a n : Nat) (y1 y2 : AVal) (h : Hp)
    (hq : ∀ (L : Nat) (x0 x4 x5 x6 x7 x8 x12 : AVal), L ≤ 256 → a % 2 ^ 256 < 2 ^ L → Kont env 70 none Q ks (.exit 0) (x0 :: y1 :: y2 :: .int .i64 (L : Nat) :: x4 :: x5 :: x6 :: x7 :: x8 :: AVal.junk :: AVal.junk :: AVal.junk :: x12 :: AVal.junk :: AVal.junk :: AVal.junk :: AVal.junk :: AVal.junk :: AVal.junk :: AVal.junk :: []) h n) :
    ∀ (k i L : Nat) (x0 x4 x5 x8 x12 : AVal), i + k = 4 → L ≤ 64 * i → a % 2 ^ (64 * i) < 2 ^ L →
    Run env 70 none Q (.loop lp70_0) ks (x0 :: y1 :: y2 :: .int .i64 (L : Nat) :: x4 :: x5 :: W a :: .int .i64 (i : Nat) :: x8 :: AVal.junk :: AVal.junk :: AVal.junk :: x12 :: AVal.junk :: AVal.junk :: AVal.junk :: AVal.junk :: AVal.junk :: AVal.junk :: AVal.junk :: []) h n := by
  intro k
  induction k with
  | zero =>
    intro i L x0 x4 x5 x8 x12 hi hL hlt
    have : i = 4 := by omega
    subst this
    have hc : ¬ ((4 : Nat) : Int) < 4 := by decide
    rw [run_loop]
    simp only [lp70_0, loopsOf, Try.f70, Option.getD_some, core1, fgr, execOp, opd, ofValue, putT, put, nth, forgetL, bor, binInt, shiftB, intOp, List.nil_append, List.append_nil, Int.cast_ofNat_Int, Int.reduceLT, decide_true, decide_false, List.getD_cons_zero]
    exact hq L _ _ _ _ _ _ _ hL hlt
  | succ k ih =>
    intro i L x0 x4 x5 x8 x12 hi hL hlt
    have h4 : i < 4 := by omega
    have hc : ((i : Nat) : Int) < 4 := by omega
    have hw : IntKind.i64.wrap (((i : Nat) : Int) + 1) = ((i + 1 : Nat) : Int) := by rw [w64 (by omega) (by omega)]; omega
    rw [run_loop]
    simp only [lp70_0, loopsOf, Try.f70, Option.getD_some, core1, fgr, execOp, opd, ofValue, putT, put, nth, forgetL, bor, binInt, shiftB, intOp, List.nil_append, List.append_nil, decide_true, List.getD_cons_zero, hc]
    rw [opv_rd (idx_W h4)]
    by_cases h0 : 0 < wd a i
    · have h0' : (0 : Int) < ((wd a i : Nat) : Int) := by omega
      have hw6 : IntKind.i64.wrap (((i : Nat) : Int) * 64) = ((64 * i : Nat) : Int) := by rw [w64 (by omega) (by omega)]; omega
      simp only [core1, fgr, hkr, execOp, opd, opds, ofValue, putT, put, nth, forgetL, doCall, callV_func, bor, binInt, shiftB, intOp, wrapI, List.nil_append, List.append_nil, gt_iff_lt, decide_true, h0', hw6]
      refine opv_call (f71 (wd a i) h n (wd_lt _ _)) fun v1 h1 n1 hn1 ⟨⟨L1, e1, e2, e3⟩, e4, e5⟩ => ?_
      subst e1; subst e4; subst e5
      have hw7 : IntKind.i64.wrap (((64 * i : Nat) : Int) + ((L1 : Nat) : Int)) = ((64 * i + L1 : Nat) : Int) := by rw [w64 (by omega) (by omega)]; omega
      simp only [core1, fgr, execOp, opd, ofValue, putT, put, nth, forgetL, bor, binInt, shiftB, intOp, wrapI, decide_true, hw7, hw]
      refine ih (i + 1) (64 * i + L1) _ _ _ _ _ (by omega) (by omega) ?_
      rw [low_succ, Nat.pow_add, Nat.mul_comm (2 ^ (64 * i))]
      have h1 : a % 2 ^ (64 * i) < 2 ^ (64 * i) := Nat.mod_lt _ (Nat.two_pow_pos _)
      have h2 : (wd a i + 1) * 2 ^ (64 * i) ≤ 2 ^ L1 * 2 ^ (64 * i) := Nat.mul_le_mul_right _ e3
      rw [Nat.add_mul] at h2
      omega
    · have h0' : ¬ (0 : Int) < ((wd a i : Nat) : Int) := by omega
      simp only [core1, fgr, execOp, opd, ofValue, putT, put, nth, forgetL, bor, binInt, shiftB, intOp, wrapI, gt_iff_lt, decide_true, decide_false, h0', hw]
      refine ih (i + 1) L _ _ _ _ _ (by omega) (by omega) ?_
      rw [low_succ, show wd a i = 0 by omega, Nat.zero_mul, Nat.zero_add]
      exact hlt
theorem f70 (a : Nat) (h : Hp) (n : Nat) (ha : a < b256) : Wp (callI env (evalW env) 70 [W a]) h n fun v' h' n' => (∃ L : Nat, v' = .int .i64 (L : Nat) ∧ L ≤ 256 ∧ a < 2 ^ L) ∧ Old h h' n := by
  refine wp_callI ff70 fi70 ?_
  have hW : W a = .agg [.int .u64 (wd a 0 : Nat), .int .u64 (wd a 1 : Nat), .int .u64 (wd a 2 : Nat), .int .u64 (wd a 3 : Nat)] := rfl
  rw [hW]
  simp (disch := omega) only [fu70, Try.f70, Option.getD_some, List.replicate, core1, tyr, fgr, execOp, opd, ofValue, putT, put, nth, forgetL, readCells, cellsOf, aggB, cel, alloc, newRow, ended, resultOf, oneOrTup, rowK, List.cons_append, List.nil_append, List.length_cons, List.length_nil, Nat.reduceAdd, Nat.reduceSub, true_and, Nat.zero_add, wp_pure, memr, List.take_succ_cons, List.take_zero, List.drop_zero, Nat.ble, Cont.size, Cont.sub, upd_same, Option.some.injEq, exists_eq_left', true_and, List.length_cons, List.length_nil]
  rw [← hW]
  refine loop70 _ _ a (n + 1) _ _ _ ?_ 4 0 0 _ _ _ _ _ rfl (Nat.zero_le _) (by rw [Nat.mul_zero, Nat.pow_zero, Nat.mod_one]; decide)
  intro L x0 x4 x5 x6 x7 x8 x12 hL hlt
  simp only [core1, fgr, execOp, opd, putT, put, nth, forgetL, true_and]
  have : a % 2 ^ 256 = a := Nat.mod_eq_of_lt (Nat.lt_of_lt_of_le ha (by decide))
  rw [this] at hlt
  exact ⟨⟨L, rfl, hL, hlt⟩, (Old.refl _ _).upd (Nat.le_refl _)⟩
/- Division, bit by bit. -/
theorem wd_or (x y i : Nat) : wd (x ||| y) i = wd x i ||| wd y i := by
  unfold wd
  rw [show (18446744073709551616 : Nat) = 2 ^ 64 from rfl, Nat.or_div_two_pow, Nat.or_mod_two_pow]
theorem wd_pow (n i : Nat) : wd (2 ^ n) i = if i = n / 64 then 2 ^ (n % 64) else 0 := by
  unfold wd
  have hn := Nat.div_add_mod n 64
  by_cases h : i = n / 64
  · subst h
    rw [if_pos rfl, show 2 ^ n = 2 ^ (n % 64) * 2 ^ (64 * (n / 64)) by rw [← Nat.pow_add]; congr 1; omega, Nat.mul_div_cancel _ (Nat.two_pow_pos _), Nat.mod_eq_of_lt]
    exact Nat.lt_of_lt_of_le (Nat.pow_lt_pow_right (by decide) (Nat.mod_lt _ (by decide))) (show 2 ^ 64 ≤ 18446744073709551616 by decide)
  · rw [if_neg h]
    by_cases h2 : i < n / 64
    · rw [show 2 ^ n = 2 ^ (n - 64 * i - 64) * 18446744073709551616 * 2 ^ (64 * i) by rw [show 18446744073709551616 = 2 ^ 64 from rfl, ← Nat.pow_add, ← Nat.pow_add]; congr 1; omega, Nat.mul_div_cancel _ (Nat.two_pow_pos _), Nat.mul_mod_left]
    · rw [Nat.div_eq_of_lt (Nat.pow_lt_pow_right (by decide) (by omega)), Nat.zero_mod]
theorem set_bit (Q n i : Nat) (hQ : Q % 2 ^ (n + 1) = 0) : wd (Q + 2 ^ n) i = if i = n / 64 then wd Q i ||| 2 ^ (n % 64) else wd Q i := by
  rw [← or_low Q (2 ^ n) (n + 1) hQ (Nat.pow_lt_pow_right (by decide) (by omega)), wd_or, wd_pow]
  split
  · rfl
  · rw [Nat.or_zero]
theorem bit_wd (a n : Nat) : wd a (n / 64) / 2 ^ (n % 64) % 2 = a / 2 ^ n % 2 := by
  have h : (wd a (n / 64)).testBit (n % 64) = a.testBit n := by
    unfold wd
    rw [show (18446744073709551616 : Nat) = 2 ^ 64 from rfl, Nat.testBit_mod_two_pow, Nat.testBit_div_two_pow, decide_eq_true (Nat.mod_lt _ (by decide)), Bool.true_and]
    congr 1
    omega
  rw [Nat.testBit_eq_decide_div_mod_eq, Nat.testBit_eq_decide_div_mod_eq] at h
  have h1 : wd a (n / 64) / 2 ^ (n % 64) % 2 < 2 := Nat.mod_lt _ (by decide)
  have h2 : a / 2 ^ n % 2 < 2 := Nat.mod_lt _ (by decide)
  by_cases q : wd a (n / 64) / 2 ^ (n % 64) % 2 = 1
  · rw [q] at h
    have := of_decide_eq_true (h.symm.trans (decide_eq_true rfl))
    omega
  · rw [decide_eq_false q] at h
    have := of_decide_eq_false h.symm
    omega
theorem half_step (a m : Nat) : a / 2 ^ m = 2 * (a / 2 ^ (m + 1)) + a / 2 ^ m % 2 := by
  rw [Nat.pow_succ, ← Nat.div_div_eq_div_mul]; omega
theorem div_step {b q r x : Nat} (hb : 0 < b) (hr : r < b) (hx : x = 2 * (q * b + r) + 0 ∨ x = 2 * (q * b + r) + 1) (bit : Nat) (hbit : x = 2 * (q * b + r) + bit) :
    x / b = (if 2 * r + bit < b then 2 * q else 2 * q + 1) ∧ x % b = (if 2 * r + bit < b then 2 * r + bit else 2 * r + bit - b) := by
  have hb1 : bit ≤ 1 := by omega
  have e : x = (2 * q) * b + (2 * r + bit) := by rw [hbit]; grind
  by_cases h : 2 * r + bit < b
  · rw [if_pos h, if_pos h, e]
    constructor
    · rw [Nat.add_comm, Nat.add_mul_div_right _ _ hb, Nat.div_eq_of_lt h, Nat.zero_add]
    · rw [Nat.add_comm, Nat.add_mul_mod_self_right, Nat.mod_eq_of_lt h]
  · rw [if_neg h, if_neg h]
    have e2 : x = (2 * q + 1) * b + (2 * r + bit - b) := by rw [e, Nat.add_mul]; omega
    have h2 : 2 * r + bit - b < b := by omega
    rw [e2]
    constructor
    · rw [Nat.add_comm, Nat.add_mul_div_right _ _ hb, Nat.div_eq_of_lt h2, Nat.zero_add]
    · rw [Nat.add_comm, Nat.add_mul_mod_self_right, Nat.mod_eq_of_lt h2]
theorem ushr63 (x : Nat) : Int.fdiv (x : Int) (2 ^ (min (Int.toNat 63) IntKind.u64.bits)) = ((x / 9223372036854775808 : Nat) : Int) := ushr x 63 (by decide)
theorem ushl1 (s : Nat) (hs : s < 64) : IntKind.u64.wrap (1 * 2 ^ (min ((s : Nat) : Int).toNat IntKind.u64.bits)) = ((2 ^ s : Nat) : Int) := by
  have := ushl 1 s (by omega)
  rw [show ((1 : Nat) : Int) = 1 from rfl] at this
  rw [this, Nat.one_mul, Nat.mod_eq_of_lt]
  exact Nat.lt_of_lt_of_le (Nat.pow_lt_pow_right (by decide) hs) (show 2 ^ 64 ≤ 18446744073709551616 by decide)
theorem pick_wd {k : IntKind} {h : Hp} {id x : Nat} (ha : Arr k h id 4 (pick4 (wd x 0 : Nat) (wd x 1 : Nat) (wd x 2 : Nat) (wd x 3 : Nat))) : Arr k h id 4 (fun j => (wd x j : Nat)) := ha.ext fun j hj => by
  match j, hj with
  | 0, _ => rfl
  | 1, _ => rfl
  | 2, _ => rfl
  | 3, _ => rfl
theorem bit_add {L b j : Nat} (hL : L % 2 = 0) (hb : b < 2) : wd (L + b) j = if j = 0 then wd L 0 ||| b else wd L j := by
  have h01 : b = 0 ∨ b = 1 := by omega
  rcases h01 with rfl | rfl
  · rw [Nat.add_zero, Nat.or_zero]
    split
    · rename_i h; rw [h]
    · rfl
  · have := set_bit L 0 j (by simpa using hL)
    simp only [Nat.pow_zero, Nat.zero_div, Nat.zero_mod] at this
    rw [this]
    split
    · rename_i h; rw [h]
    · rfl
theorem high_bit {r : Nat} (hr : r < b256) : (wd r 3 / 9223372036854775808 = 0 ∧ 2 * r < b256) ∨ (wd r 3 / 9223372036854775808 = 1 ∧ b256 ≤ 2 * r) := by
  unfold wd
  unfold b256 at hr ⊢
  omega
theorem left_one (r : Nat) : leftV r 1 = 2 * r % b256 := by
  unfold leftV
  rw [if_neg (by decide), show (1 : Int).toNat = 1 from rfl, Nat.pow_one, Nat.mul_comm]
theorem even_left (r : Nat) : leftV r 1 % 2 = 0 := by
  rw [left_one]
  unfold b256
  omega
noncomputable def L34 (tm : List AVal) : ALoop := { state := .ready, pending := none, fn := 34, tmps := tm, params := [17, 18], assign := ra34_0, body := rb34_0 }
set_option maxHeartbeats 4000000 in
theorem loop69 (Q : Post0) (ks : List Kf) (N a b i1 i3 i4 i5 id : Nat) (ha : a < b256) (hb : 0 < b) (hb2 : b < b256)
    (hd : i1 ≠ i3 ∧ i1 ≠ i4 ∧ i1 ≠ i5 ∧ i1 ≠ id ∧ i3 ≠ i4 ∧ i3 ≠ i5 ∧ i3 ≠ id ∧ i4 ≠ i5 ∧ i4 ≠ id ∧ i5 ≠ id) (hN : N ≤ i4 ∧ N ≤ i5 ∧ N ≤ id) (h0 : Hp)
    (hq : ∀ (h : Hp) (n : Nat) (tm' : List AVal) (x0 x1 x2 x6 x7 x8 x9 x12 x16 x17 x18 x36 : AVal), h id = some (.loop (L34 (x0 :: x1 :: x2 :: .ptr i3 0 :: .ptr i4 0 :: .ptr i5 0 :: x6 :: x7 :: x8 :: x9 :: AVal.junk :: AVal.junk :: x12 :: AVal.junk :: AVal.junk :: AVal.junk :: x16 :: x17 :: x18 :: AVal.junk :: AVal.junk :: AVal.junk :: AVal.junk :: AVal.junk :: AVal.junk :: AVal.junk :: AVal.junk :: AVal.junk :: AVal.junk :: AVal.junk :: AVal.junk :: AVal.junk :: AVal.junk :: AVal.junk :: AVal.junk :: AVal.junk :: x36 :: AVal.junk :: AVal.junk :: AVal.junk :: AVal.junk :: AVal.junk :: AVal.junk :: AVal.junk :: AVal.junk :: AVal.junk :: AVal.junk :: AVal.junk :: AVal.junk :: AVal.junk :: AVal.junk :: AVal.junk :: AVal.junk :: AVal.junk :: []))) → Arr .u64 h i4 4 (fun j => (wd (a / b) j : Nat)) → Arr .u64 h i5 4 (fun j => (wd (a % b) j : Nat)) → i4 < n ∧ i5 < n ∧ id < n → Free h n → Old h0 h N → Kont env 69 none Q ks (.exit 0) tm' h n) :
    ∀ (m : Nat) (h : Hp) (n : Nat) (z8 z22 : AVal) (x0 x1 x2 x6 x7 x8 x9 x12 x16 x17 x18 x36 : AVal), m ≤ 256 → h id = some (.loop (L34 (x0 :: x1 :: x2 :: .ptr i3 0 :: .ptr i4 0 :: .ptr i5 0 :: x6 :: x7 :: x8 :: x9 :: AVal.junk :: AVal.junk :: x12 :: AVal.junk :: AVal.junk :: AVal.junk :: x16 :: x17 :: x18 :: AVal.junk :: AVal.junk :: AVal.junk :: AVal.junk :: AVal.junk :: AVal.junk :: AVal.junk :: AVal.junk :: AVal.junk :: AVal.junk :: AVal.junk :: AVal.junk :: AVal.junk :: AVal.junk :: AVal.junk :: AVal.junk :: AVal.junk :: x36 :: AVal.junk :: AVal.junk :: AVal.junk :: AVal.junk :: AVal.junk :: AVal.junk :: AVal.junk :: AVal.junk :: AVal.junk :: AVal.junk :: AVal.junk :: AVal.junk :: AVal.junk :: AVal.junk :: AVal.junk :: AVal.junk :: AVal.junk :: []))) →
    Arr .u64 h i1 4 (fun j => (wd a j : Nat)) → Arr .u64 h i3 4 (fun j => (wd b j : Nat)) → Arr .u64 h i4 4 (fun j => (wd (a / 2 ^ m / b * 2 ^ m) j : Nat)) → Arr .u64 h i5 4 (fun j => (wd (a / 2 ^ m % b) j : Nat)) →
    i1 < n ∧ i3 < n ∧ i4 < n ∧ i5 < n ∧ id < n → Free h n → Old h0 h N →
    Run env 69 none Q (.loop lp69_0) ks (.fn (.yield id) [] [] :: .ptr i1 0 :: AVal.junk :: .int .i64 (((m : Nat) : Int) - 1) :: AVal.junk :: AVal.junk :: AVal.junk :: AVal.junk :: z8 :: AVal.junk :: AVal.junk :: AVal.junk :: AVal.junk :: AVal.junk :: AVal.junk :: AVal.junk :: AVal.junk :: AVal.junk :: AVal.junk :: AVal.junk :: AVal.junk :: AVal.junk :: z22 :: []) h n := by
  intro m
  induction m with
  | zero =>
    intro h n z8 z22 x0 x1 x2 x6 x7 x8 x9 x12 x16 x17 x18 x36 hm hid h1 h3 h4 h5 hn hf ho
    have hc : ¬ (0 : Int) ≤ ((0 : Nat) : Int) - 1 := by decide
    rw [run_loop]
    simp only [lp69_0, loopsOf, Try.f69, Option.getD_some, core1, fgr, execOp, opd, ofValue, putT, put, nth, forgetL, bor, binInt, shiftB, intOp, List.nil_append, List.append_nil, Int.cast_ofNat_Int, Int.reduceLE, Int.reduceSub, Int.reduceNeg, ge_iff_le, decide_true, decide_false, List.getD_cons_zero]
    refine hq h n _ _ _ _ _ _ _ _ _ _ _ _ _ hid ?_ ?_ ⟨hn.2.2.1, hn.2.2.2.1, hn.2.2.2.2⟩ hf ho
    · simpa using h4
    · simpa using h5
  | succ m ih =>
    intro h n z8 z22 x0 x1 x2 x6 x7 x8 x9 x12 x16 x17 x18 x36 hm hid h1 h3 h4 h5 hn hf ho
    have hc : (0 : Int) ≤ ((m : Nat) : Int) := by omega
    have hm1 : ((m + 1 : Nat) : Int) - 1 = ((m : Nat) : Int) := by omega
    have hwm : IntKind.i64.wrap (((m : Nat) : Int) - 1) = ((m : Nat) : Int) - 1 := w64 (by omega) (by omega)
    have q1 : IntKind.i64.wrap (Int.tdiv ((m : Nat) : Int) 64) = ((m / 64 : Nat) : Int) := by rw [Int.tdiv_eq_ediv_of_nonneg (by omega), w64 (by omega) (by omega)]; omega
    have q2 : Int.tmod ((m : Nat) : Int) 64 = ((m % 64 : Nat) : Int) := by rw [Int.tmod_eq_emod_of_nonneg (by omega)]; omega
    have hr64 : m % 64 < 64 := Nat.mod_lt _ (by decide)
    have h64 : m / 64 < 4 := by omega
    have h0r : (0 : Int) ≤ ((m % 64 : Nat) : Int) := by omega
    have hlt : wd a (m / 64) / 2 ^ (m % 64) < 18446744073709551616 := Nat.lt_of_le_of_lt (Nat.div_le_self _ _) (wd_lt _ _)
    have hbit := bit_wd a m
    rw [run_loop]
    simp only [lp69_0, loopsOf, Try.f69, Option.getD_some, core1, fgr, execOp, opd, ofValue, putT, put, nth, forgetL, bor, binInt, shiftB, intOp, wrapI, List.nil_append, List.append_nil, Int.reduceNe, ge_iff_le, decide_true, true_and, List.getD_cons_zero, hm1, hc, q1]
    rw [opv_rd (arr_idx t25 s23 rfl h64)]
    simp only [core1, execOp, opd, putT, put, nth]
    rw [opv_rd (h1.load ti23 rfl h64)]
    simp only [core1, execOp, opd, opds, ofValue, putT, put, nth, doCall, bor, binInt, shiftB, shiftOp, intOp, wrapI, Int.reduceNe, decide_true, true_and, q2, h0r, ushr _ (m % 64) (by omega), umask1 hlt, hbit]
    refine opv_yield (l := L34 (x0 :: x1 :: x2 :: .ptr i3 0 :: .ptr i4 0 :: .ptr i5 0 :: x6 :: x7 :: x8 :: x9 :: AVal.junk :: AVal.junk :: x12 :: AVal.junk :: AVal.junk :: AVal.junk :: x16 :: x17 :: x18 :: AVal.junk :: AVal.junk :: AVal.junk :: AVal.junk :: AVal.junk :: AVal.junk :: AVal.junk :: AVal.junk :: AVal.junk :: AVal.junk :: AVal.junk :: AVal.junk :: AVal.junk :: AVal.junk :: AVal.junk :: AVal.junk :: AVal.junk :: x36 :: AVal.junk :: AVal.junk :: AVal.junk :: AVal.junk :: AVal.junk :: AVal.junk :: AVal.junk :: AVal.junk :: AVal.junk :: AVal.junk :: AVal.junk :: AVal.junk :: AVal.junk :: AVal.junk :: AVal.junk :: AVal.junk :: AVal.junk :: [])) hid rfl rfl ?_
    simp only [ra34_0, List.getD_cons_zero, putAll, List.zip_cons_cons, List.zip_nil_left, L34, rangesOf, Try.f34, Option.getD_some, core1, fgr, execOp, opd, putT, put, nth, forgetL, unOp, List.nil_append, List.append_nil, true_and]
    refine ⟨_, hid, rfl, ?_⟩
    simp only [rb34_0, List.getD_cons_zero, L34, rangesOf, Try.f34, Option.getD_some, core1, execOp, opd, ofValue, nth, List.nil_append, List.append_nil]
    generalize hG : upd h id (some (Blk.loop _)) = G
    have gid := (congrFun hG.symm id).trans (upd_same _ _ _)
    have gk : ∀ j, j ≠ id → G j = h j := fun j hj => by rw [← hG, upd_ne _ _ hj]
    have fG : Free G n := by rw [← hG]; exact hf.upd hn.2.2.2.2
    have g3 := h3.keep (gk i3 (by omega))
    have g4 := h4.keep (gk i4 (by omega))
    have g5 := h5.keep (gk i5 (by omega))
    have oG : Old h0 G N := fun j hj => by rw [gk j (by omega)]; exact ho j hj
    clear hG
    rw [opv_rd (arr_idx (z := 3) (j := 3) t25 s23 rfl (by decide))]
    simp only [core1, execOp, opd, putT, put, nth]
    rw [opv_rd (g5.load ti23 rfl (by decide))]
    simp only [core1, fgr, execOp, opd, ofValue, putT, put, nth, forgetL, bor, binInt, shiftB, shiftOp, Int.reduceLE, decide_true, true_and, ushr63]
    rw [opv_rd (g5.all ti25 rfl rfl), range4]
    have hrlt : a / 2 ^ (m + 1) % b < b := Nat.mod_lt _ hb
    have hr256 : a / 2 ^ (m + 1) % b < b256 := Nat.lt_trans hrlt hb2
    simp only [core1, hkr, execOp, opd, opds, ofValue, putT, put, nth, doCall, callV_func, List.nil_append, List.append_nil]
    refine opv_callf fG (f20 (a / 2 ^ (m + 1) % b) 1 G n hr256 fG) fun v1 g1 n1 hn1 hf1 ⟨e1, old1⟩ => ?_
    subst e1
    have k5 := g5.keep (old1 i5 (by omega))
    simp only [core1, execOp, opd, putT, put, nth, W]
    refine opv_all4 k5 ti25 rfl fun b5 k5 => ?_
    have k5 := pick_wd k5
    simp only [core1, fgr, execOp, opd, ofValue, putT, nth, forgetL]
    rw [opv_rd (arr_idx (z := 0) (j := 0) t25 s23 rfl (by decide))]
    simp only [core1, execOp, opd, putT, put, nth]
    rw [opv_rd (k5.load ti23 rfl (by decide))]
    have hbl : a / 2 ^ m % 2 < 2 := Nat.mod_lt _ (by decide)
    simp only [core1, execOp, opd, ofValue, putT, put, nth, bor, binInt, shiftB, intOp, wrapI, decide_true, uor (wd_lt _ _) (show a / 2 ^ m % 2 < 18446744073709551616 by omega)]
    rw [opv_rd (arr_idx (z := 0) (j := 0) t25 s23 rfl (by decide))]
    simp only [core1, execOp, opd, putT, put, nth]
    refine opv_arr k5 ti23 rfl (by decide) fun b6 k6 => ?_
    obtain ⟨X, hX⟩ : ∃ X, X = leftV (a / 2 ^ (m + 1) % b) 1 + a / 2 ^ m % 2 := ⟨_, rfl⟩
    have hXlt : X < b256 := by
      have h1 := even_left (a / 2 ^ (m + 1) % b)
      have h2 := leftV_lt (z := 1) hr256
      rw [hX]
      unfold b256 at h2 ⊢
      omega
    have k7 : Arr .u64 (upd (upd g1 i5 (some b5)) i5 (some b6)) i5 4 (fun j => (wd X j : Nat)) := k6.ext fun j hj => by
      rw [hX, bit_add (even_left _) hbl]
      split <;> rfl
    clear k6
    obtain ⟨F, hF⟩ : ∃ F, F = upd (upd g1 i5 (some b5)) i5 (some b6) := ⟨_, rfl⟩
    rw [← hF] at k7 ⊢
    have fk : ∀ j, j ≠ i5 → F j = g1 j := fun j hj => by rw [hF, upd_ne _ _ hj, upd_ne _ _ hj]
    have fF : Free F n1 := by rw [hF]; exact (hf1.upd (by omega)).upd (by omega)
    have f1 : Arr .u64 F i1 4 (fun j => (wd a j : Nat)) := (h1.keep (gk i1 (by omega))).keep ((fk i1 (by omega)).trans (old1 i1 (by omega)))
    have f3 := g3.keep ((fk i3 (by omega)).trans (old1 i3 (by omega)))
    have f4 := g4.keep ((fk i4 (by omega)).trans (old1 i4 (by omega)))
    have fid := ((fk id (by omega)).trans (old1 id (by omega))).trans gid
    have oF : Old h0 F N := fun j hj => by rw [fk j (by omega), old1 j (by omega)]; exact oG j hj
    clear hF
    -- the numbers
    have hA : a / 2 ^ m = 2 * (a / 2 ^ (m + 1)) + a / 2 ^ m % 2 := half_step a m
    have hA2 : a / 2 ^ (m + 1) = a / 2 ^ (m + 1) / b * b + a / 2 ^ (m + 1) % b := by rw [Nat.mul_comm]; exact (Nat.div_add_mod _ _).symm
    obtain ⟨dq, dr⟩ := div_step (b := b) (q := a / 2 ^ (m + 1) / b) (r := a / 2 ^ (m + 1) % b) (x := a / 2 ^ m) hb hrlt (by rw [← hA2]; omega) (a / 2 ^ m % 2) (by rw [← hA2]; exact hA)
    have hpow : 2 ^ (m + 1) = 2 * 2 ^ m := by rw [Nat.pow_succ, Nat.mul_comm]
    have small : ∀ (hsm : 2 * (a / 2 ^ (m + 1) % b) + a / 2 ^ m % 2 < b), X = a / 2 ^ m % b ∧ a / 2 ^ m / b * 2 ^ m = a / 2 ^ (m + 1) / b * 2 ^ (m + 1) := fun hsm => by
      rw [dq, dr, if_pos hsm, if_pos hsm]
      refine ⟨?_, by rw [hpow]; grind⟩
      rw [hX, left_one, Nat.mod_eq_of_lt (by omega)]
    simp only [core1, fgr, execOp, opd, ofValue, putT, put, nth, forgetL, bor, binInt, shiftB, intOp, List.getElem?_cons_succ, List.getElem?_cons_zero, int_beq, decide_true]
    rcases high_bit hr256 with ⟨u1, u2⟩ | ⟨u1, u2⟩
    case' inl =>
      simp only [u1, core1, execOp, opd, nth, Int.cast_ofNat_Int, decide_true]
      rw [opv_rd (k7.all ti25 rfl rfl), range4]
      simp only [core1, execOp, opd, putT, put, nth, List.getElem?_cons_succ, List.getElem?_cons_zero]
      rw [opv_rd (f3.all ti25 rfl rfl), range4]
      simp only [core1, hkr, execOp, opd, opds, putT, put, nth, doCall, callV_func, List.getElem?_cons_succ, List.getElem?_cons_zero, List.nil_append, List.append_nil]
      refine opv_callf fF (f17 X b F n1 hXlt hb2 fF) fun v2 g2 n2 hn2 hf2 ⟨e2, old2⟩ => ?_
      subst e2
      have hx2 : X = 2 * (a / 2 ^ (m + 1) % b) + a / 2 ^ m % 2 := by rw [hX, left_one, Nat.mod_eq_of_lt u2]
      by_cases hXb : X < b
      · have hv : (if X = b then (0 : Int) else if X < b then -1 else 1) = -1 := by rw [if_neg (by omega), if_pos hXb]
        obtain ⟨s1, s2⟩ := small (by omega)
        simp only [hv, core1, fgr, execOp, opd, ofValue, putT, put, nth, forgetL, bor, binInt, shiftB, intOp, doPick, branch, List.getElem?_cons_succ, List.getElem?_cons_zero, Int.reduceLT, Int.reduceNeg, decide_true]
        refine ⟨_, (old2 id (by omega)).trans fid, ?_⟩
        simp only [core1, fgr, execOp, opd, ofValue, putT, put, nth, forgetL, bor, binInt, shiftB, intOp, wrapI, decide_true, Bool.not_true, normB, jumpOf, hwm]
        refine ih _ n2 _ _ _ _ _ _ _ _ _ _ _ _ _ _ (by omega) (upd_same _ _ _) ((f1.keep (old2 i1 (by omega))).upd (by omega)) ((f3.keep (old2 i3 (by omega))).upd (by omega)) (((f4.keep (old2 i4 (by omega))).upd (by omega)).ext fun j hj => ?_) (((k7.keep (old2 i5 (by omega))).upd (by omega)).ext fun j hj => ?_) ⟨by omega, by omega, by omega, by omega, by omega⟩ (hf2.upd (by omega)) (fun j hj => ?_)
        · rw [s2]
        · rw [s1]
        · rw [upd_ne _ _ (by omega), old2 j (by omega)]; exact oF j hj
      have hv : ∃ z : Int, (if X = b then (0 : Int) else if X < b then -1 else 1) = z ∧ ¬ z < 0 := by
        by_cases e : X = b
        · exact ⟨0, if_pos e, by decide⟩
        · exact ⟨1, by rw [if_neg e, if_neg hXb], by decide⟩
      obtain ⟨z, hz, hz2⟩ := hv
      have big : b ≤ 2 * (a / 2 ^ (m + 1) % b) + a / 2 ^ m % 2 := by omega
      simp only [hz, hz2, core1, fgr, execOp, opd, ofValue, putT, put, nth, forgetL, bor, binInt, shiftB, intOp, doPick, branch, List.getElem?_cons_succ, List.getElem?_cons_zero, Int.reduceNeg, decide_true, decide_false]
    case' inr =>
      simp only [u1, core1, fgr, execOp, opd, ofValue, putT, put, nth, forgetL, doPick, branch, List.getElem?_cons_succ, List.getElem?_cons_zero, Int.cast_ofNat_Int, Int.reduceEq, decide_false]
      have big : b ≤ 2 * (a / 2 ^ (m + 1) % b) + a / 2 ^ m % 2 := by omega
      obtain ⟨g2, eg2⟩ : ∃ g2, g2 = F := ⟨_, rfl⟩
      obtain ⟨n2, en2⟩ : ∃ n2, n2 = n1 := ⟨_, rfl⟩
      have hn2 : n1 ≤ n2 := by omega
      have hf2 : Free g2 n2 := by rw [eg2, en2]; exact fF
      have old2 : Old F g2 n1 := by rw [eg2]; exact Old.refl _ _
      rw [← eg2, ← en2]
    all_goals
      have p7 := k7.keep (old2 i5 (by omega))
      have p3 := f3.keep (old2 i3 (by omega))
      have p4 := f4.keep (old2 i4 (by omega))
      have p1 := f1.keep (old2 i1 (by omega))
      have pid := (old2 id (by omega)).trans fid
      rw [opv_rd (p7.all ti25 rfl rfl), range4]
      simp only [core1, execOp, opd, putT, put, nth]
      rw [opv_rd (p3.all ti25 rfl rfl), range4]
      simp only [core1, hkr, execOp, opd, opds, putT, put, nth, doCall, callV_func, List.nil_append, List.append_nil]
      refine opv_callf hf2 (f18 X b g2 n2 hXlt hb2 hf2) fun v3 g3' n3 hn3 hf3 ⟨e3, old3⟩ => ?_
      subst e3
      simp only [core1, execOp, opd, putT, put, nth, extract, getO, List.getElem?_cons_succ, List.getElem?_cons_zero, W]
      refine opv_all4 (p7.keep (old3 i5 (by omega))) ti25 rfl fun b7 k8 => ?_
      have k8 := pick_wd k8
      simp only [core1, fgr, putT, forgetL]
      refine run_draw.2 ⟨rfl, ?_⟩
      simp only [fe_cons, fev_ob, fev_pure, execOp, opd, ofValue, putT, put, nth, bor, binInt, shiftB, intOp, wrapI, Nat.reduceAdd, Int.reduceNe, decide_true, true_and, Nat.zero_add, q1]
      rw [fev_rd (arr_idx t25 s23 rfl h64)]
      simp only [fe_cons, execOp, opd, putT, put, nth, Nat.reduceAdd]
      have p4' : Arr .u64 (upd g3' i5 (some b7)) i4 4 (fun j => (wd (a / 2 ^ (m + 1) / b * 2 ^ (m + 1)) j : Nat)) := (p4.keep (old3 i4 (by omega))).upd (by omega)
      rw [fev_rd (p4'.load ti23 rfl h64)]
      simp only [fe_cons, fev_ob, fev_pure, execOp, opd, ofValue, putT, put, nth, bor, binInt, shiftB, shiftOp, intOp, wrapI, Nat.reduceAdd, Int.reduceNe, decide_true, true_and, q2, h0r, ushl1 _ hr64, uor (wd_lt _ _) (Nat.lt_of_lt_of_le (Nat.pow_lt_pow_right (by decide) hr64) (show 2 ^ 64 ≤ 18446744073709551616 by decide))]
      rw [fev_rd (arr_idx t25 s23 rfl h64)]
      simp only [fe_cons, execOp, opd, putT, put, nth, Nat.reduceAdd]
      refine fev_arr p4' (hf3.upd (by omega)) (by omega) ti23 rfl h64 fun b8 rr ww k9 => ?_
      simp only [fe_nil, core1, fgr, putT, forgetL, Nat.reduceAdd]
      refine ⟨(by (try simp (disch := omega) only [fine, List.all_cons, List.all_nil, clash_pl, clash_pr, clash_rr, Bool.not_false, Bool.true_or, Bool.and_true, Bool.true_and]); repeat' (first | rfl | exact (Bool.or_eq_true _ _).mpr (.inr rfl) | refine (Bool.and_eq_true _ _).mpr ⟨?_, ?_⟩)), ?_⟩
      have nsm : ¬ 2 * (a / 2 ^ (m + 1) % b) + a / 2 ^ m % 2 < b := by omega
      have t1 : (X + b256 - b) % b256 = a / 2 ^ m % b := by
        rw [dr, if_neg nsm]
        have h1 := hX
        rw [left_one] at h1
        unfold b256 at h1 u2 hb2 hr256 hXlt ⊢
        omega
      have t2 : a / 2 ^ m / b * 2 ^ m = a / 2 ^ (m + 1) / b * 2 ^ (m + 1) + 2 ^ m := by rw [dq, if_neg nsm, hpow]; grind
      have t3 : ∀ j, wd (a / 2 ^ m / b * 2 ^ m) j = if j = m / 64 then wd (a / 2 ^ (m + 1) / b * 2 ^ (m + 1)) (m / 64) ||| 2 ^ (m % 64) else wd (a / 2 ^ (m + 1) / b * 2 ^ (m + 1)) j := fun j => by
        rw [t2, set_bit _ _ _ (Nat.mul_mod_left _ _)]
        split
        · rename_i h; rw [h]
        · rfl
      refine ⟨_, (upd_ne _ _ (show id ≠ i4 by omega)).trans ((upd_ne _ _ (show id ≠ i5 by omega)).trans ((old3 id (by omega)).trans pid)), ?_⟩
      simp only [core1, fgr, execOp, opd, ofValue, putT, put, nth, forgetL, bor, binInt, shiftB, intOp, wrapI, decide_true, Bool.not_true, normB, jumpOf, hwm]
      refine ih _ n3 _ _ _ _ _ _ _ _ _ _ _ _ _ _ (by omega) (upd_same _ _ _) ((((p1.keep (old3 i1 (by omega))).upd (by omega)).upd (by omega)).upd (by omega)) ((((p3.keep (old3 i3 (by omega))).upd (by omega)).upd (by omega)).upd (by omega)) ((k9.upd (by omega)).ext fun j hj => ?_) (((k8.upd (by omega)).upd (by omega)).ext fun j hj => ?_) ⟨by omega, by omega, by omega, by omega, by omega⟩ (((hf3.upd (by omega)).upd (by omega)).upd (by omega)) (fun j hj => ?_)
      · rw [t3]
        split <;> rfl
      · rw [t1]
      · rw [upd_ne _ _ (by omega), upd_ne _ _ (by omega), upd_ne _ _ (by omega), old3 j (by omega), old2 j (by omega)]; exact oF j hj
/- Division: the whole. -/
theorem f63 (a : Nat) (h : Hp) (n : Nat) : Wp (callI env (evalW env) 63 [W a]) h n fun v' h' n' => v' = .fn (.func 69) [] [.ptr n 0] ∧ h' = upd h n (some (.row (.l [.int .u64 (wd a 0 : Nat), .int .u64 (wd a 1 : Nat), .int .u64 (wd a 2 : Nat), .int .u64 (wd a 3 : Nat)]) 25)) ∧ n' = n + 1 := by
  refine wp_callI ff63 fi63 ?_
  simp only [fu63, Try.f63, Option.getD_some, List.replicate, core1, tyr, fgr, execOp, opd, opds, ofValue, putT, put, nth, forgetL, cel, alloc, newRow, ended, resultOf, oneOrTup, List.cons_append, List.nil_append, List.length_cons, List.length_nil, Nat.reduceSub, and_self, Nat.zero_add, wp_pure, W]
end Go.Am.Ytmlagocbphoedaa
