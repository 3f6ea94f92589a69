/- The functions that the statement reaches, gone through. -/
import Derived.Test.YtmlagocbphoedaaTgPoB
set_option linter.unusedSimpArgs false
set_option linter.unusedVariables false
set_option linter.defProp false
set_option maxRecDepth 10000
namespace Go.Am.Ytmlagocbphoedaa
open Go Go.Am Go.Proofs
/- Sums of bits: the document's. -/
theorem loop64 (Q : Post0) (ks : List Kf) (a b m ix iy io n : Nat) (x y o : AVal) (hm : m ≤ 1000) (d1 : ix ≠ io) (d2 : iy ≠ io) (h0 : Hp)
    (hq : ∀ (h : Hp) (x0 x1 x4 x5 x8 x9 x16 : AVal), Nums .i64 h o io 0 m m (bit (a + b)) → (∀ j, j ≠ io → h j = h0 j) → Kont env 64 none Q ks (.exit 0) (x0 :: x1 :: AVal.junk :: AVal.junk :: x4 :: x5 :: o :: .int .i64 ((a % 2 ^ m + b % 2 ^ m) / 2 ^ m : Nat) :: x8 :: x9 :: AVal.junk :: AVal.junk :: AVal.junk :: AVal.junk :: AVal.junk :: AVal.junk :: x16 :: AVal.junk :: AVal.junk :: AVal.junk :: AVal.junk :: AVal.junk :: AVal.junk :: AVal.junk :: AVal.junk :: AVal.junk :: AVal.junk :: AVal.junk :: AVal.junk :: AVal.junk :: AVal.junk :: AVal.junk :: AVal.junk :: AVal.junk :: AVal.junk :: AVal.junk :: AVal.junk :: AVal.junk :: AVal.junk :: []) h n) :
    ∀ (k i : Nat) (z : Int) (h : Hp) (x4 x5 x9 x16 : AVal), i + k = m → z = ((a % 2 ^ i + b % 2 ^ i) / 2 ^ i : Nat) → Nums .i64 h x ix 0 m m (bit a) → Nums .i64 h y iy 0 m m (bit b) → Nums .i64 h o io 0 m m (fun j => if j < i then bit (a + b) j else 0) → (∀ j, j ≠ io → h j = h0 j) →
    Run env 64 none Q (.loop lp64_0) ks (x :: y :: AVal.junk :: AVal.junk :: x4 :: x5 :: o :: .int .i64 z :: .int .i64 (i : Nat) :: x9 :: AVal.junk :: AVal.junk :: AVal.junk :: AVal.junk :: AVal.junk :: AVal.junk :: x16 :: AVal.junk :: AVal.junk :: AVal.junk :: AVal.junk :: AVal.junk :: AVal.junk :: AVal.junk :: AVal.junk :: AVal.junk :: AVal.junk :: AVal.junk :: AVal.junk :: AVal.junk :: AVal.junk :: AVal.junk :: AVal.junk :: AVal.junk :: AVal.junk :: AVal.junk :: AVal.junk :: AVal.junk :: AVal.junk :: []) h n := by
  intro k
  induction k with
  | zero =>
    intro i z h x4 x5 x9 x16 hi hz hx hy ho hk
    subst hz
    have : i = m := by omega
    subst this
    have hc : ¬ ((i : Nat) : Int) < ((i : Nat) : Int) := by omega
    rw [run_loop]
    simp only [lp64_0, loopsOf, Try.f64, Option.getD_some, core1, fgr, execOp, opd, opds, putT, put, nth, forgetL, doCall, builtin, one1, bor, binInt, shiftB, intOp, List.nil_append, List.append_nil, decide_true, decide_false, List.getD_cons_zero, hx.len t78, hc]
    exact hq h _ _ _ _ _ _ _ (ho.ext fun j hj => if_pos hj) hk
  | succ k ih =>
    intro i z h x4 x5 x9 x16 hi hz hx hy ho hk
    subst hz
    have h4 : i < m := by omega
    have hc : ((i : Nat) : Int) < ((m : Nat) : Int) := by omega
    have hw : IntKind.i64.wrap (((i : Nat) : Int) + 1) = ((i + 1 : Nat) : Int) := by rw [w64 (by omega) (by omega)]; omega
    obtain ⟨s1, s2⟩ := add_bit a b i
    have ha2 : a / 2 ^ i % 2 < 2 := Nat.mod_lt _ (by decide)
    have hb2 : b / 2 ^ i % 2 < 2 := Nat.mod_lt _ (by decide)
    have hc2 : (a % 2 ^ i + b % 2 ^ i) / 2 ^ i < 2 := by
      rw [Nat.div_lt_iff_lt_mul (Nat.two_pow_pos _)]
      have := Nat.mod_lt a (Nat.two_pow_pos i)
      have := Nat.mod_lt b (Nat.two_pow_pos i)
      omega
    obtain ⟨S, hS⟩ : ∃ S, S = a / 2 ^ i % 2 + b / 2 ^ i % 2 + (a % 2 ^ i + b % 2 ^ i) / 2 ^ i := ⟨_, rfl⟩
    have e1 : IntKind.i64.wrap (IntKind.i64.wrap (bit a i + bit b i) + (((a % 2 ^ i + b % 2 ^ i) / 2 ^ i : Nat) : Int)) = ((S : Nat) : Int) := by
      have i1 : IntKind.i64.wrap (bit a i + bit b i) = ((a / 2 ^ i % 2 + b / 2 ^ i % 2 : Nat) : Int) := by unfold bit; rw [w64 (by omega) (by omega)]; omega
      rw [i1, w64 (by omega) (by omega), hS]; omega
    have e2 : Int.tmod ((S : Nat) : Int) 2 = bit (a + b) i := by rw [Int.tmod_eq_emod_of_nonneg (by omega)]; unfold bit; rw [← s1, ← hS]; omega
    have e3 : IntKind.i64.wrap (Int.tdiv ((S : Nat) : Int) 2) = (((a % 2 ^ (i + 1) + b % 2 ^ (i + 1)) / 2 ^ (i + 1) : Nat) : Int) := by rw [Int.tdiv_eq_ediv_of_nonneg (by omega), ← s2, ← hS, w64 (by omega) (by omega)]; omega
    rw [run_loop]
    simp only [lp64_0, loopsOf, Try.f64, Option.getD_some, core1, fgr, execOp, opd, opds, putT, put, nth, forgetL, doCall, builtin, one1, bor, binInt, shiftB, intOp, List.nil_append, List.append_nil, decide_true, List.getD_cons_zero, hx.len t78, hc]
    refine run_draw.2 ⟨rfl, ?_⟩
    simp only [fe_cons, fev_pure, execOp, opd, putT, put, nth, Nat.reduceAdd, Nat.zero_add]
    rw [fev_rd (hx.idx0 t78 s3 rfl h4)]
    simp only [fe_cons, execOp, opd, putT, put, nth, Nat.reduceAdd]
    rw [fev_rd (hx.load0 ti3 rfl h4)]
    simp only [fe_cons, fev_pure, execOp, opd, putT, put, nth, Nat.reduceAdd]
    rw [fev_rd (hy.idx0 t78 s3 rfl h4)]
    simp only [fe_cons, execOp, opd, putT, put, nth, Nat.reduceAdd]
    rw [fev_rd (hy.load0 ti3 rfl h4)]
    simp only [fe_nil, fe_cons, fev_pure, core1, fgr, execOp, opd, ofValue, putT, put, nth, forgetL, bor, binInt, shiftB, intOp, wrapI, Nat.reduceAdd, Int.reduceNe, decide_true, true_and, e1]
    refine ⟨(by (try simp (disch := omega) only [fine, List.all_cons, List.all_nil, clash_pr, clash_rr, Bool.not_false, Bool.true_or, Bool.and_true]); repeat' (first | rfl | exact (Bool.or_eq_true _ _).mpr (.inr rfl) | refine (Bool.and_eq_true _ _).mpr ⟨?_, ?_⟩)), ?_⟩
    simp only [e2]
    rw [opv_rd (ho.idx0 t78 s3 rfl h4)]
    simp only [core1, execOp, opd, putT, put, nth]
    refine ho.store0 ti3 rfl h4 fun bb hb => ?_
    simp only [core1, fgr, execOp, opd, ofValue, putT, put, nth, forgetL, bor, binInt, shiftB, intOp, wrapI, Int.reduceNe, decide_true, true_and, e3, hw]
    refine ih (i + 1) _ _ _ _ _ _ (by omega) rfl (hx.upd d1) (hy.upd d2) (hb.ext fun j hj => ?_) (fun j hj => by rw [upd_ne _ _ hj]; exact hk j hj)
    by_cases e : j = i
    · subst e
      simp only [if_pos (Nat.lt_succ_self j), ↓reduceIte]
    · by_cases e2 : j < i
      · simp only [if_neg e, if_pos e2, if_pos (show j < i + 1 by omega)]
      · simp only [if_neg e, if_neg e2, if_neg (show ¬ j < i + 1 by omega)]
theorem f64 (x y : AVal) (a b m : Nat) (hm : m ≤ 1000) (h : Hp) (n : Nat) (hx : Bt h n x a m) (hy : Bt h n y b m) : Wp (callI env (evalW env) 64 [x, y]) h n fun v' h' n' => (∃ o, v' = .tup [o, .int .i64 ((a % 2 ^ m + b % 2 ^ m) / 2 ^ m : Nat)] ∧ NewB h n o (a + b) m h' n') := by
  obtain ⟨ix, b1, _, hx⟩ := hx.nums
  obtain ⟨iy, b2, _, hy⟩ := hy.nums
  refine wp_callI ff64 fi64 ?_
  simp only [fu64, Try.f64, Option.getD_some, List.replicate, core1, fgr, execOp, opd, opds, ofValue, putT, put, nth, forgetL, doCall, builtin, one1, ended, resultOf, oneOrTup, List.cons_append, List.nil_append, List.length_cons, List.length_nil, Nat.reduceAdd, Nat.reduceSub, Nat.zero_add, wp_pure, hx.len t78]
  refine nums_make (m := m) rfl t78 ti3 rfl rfl (by show 8 * m ≤ _; omega) (by omega) fun ho => ?_
  simp only [core1, fgr, execOp, opd, ofValue, putT, put, nth, forgetL]
  refine loop64 _ _ a b m ix iy n (n + 1) x y _ hm (by omega) (by omega) _ ?_ m 0 0 _ _ _ _ _ (by omega) (by simp [Nat.mod_one]) (hx.upd (by omega)) (hy.upd (by omega)) (ho.ext fun j hj => by simp) (fun _ _ => rfl)
  intro h' x0 x1 x4 x5 x8 x9 x16 ho hk
  simp only [core1, fgr, execOp, opd, putT, put, nth, forgetL, true_and]
  obtain ⟨_, _, e, he⟩ := ho
  refine ⟨_, rfl, ⟨n, by omega, rfl, e, he⟩, fun j hj => by injection hj with hj; omega, fun j hj => ?_⟩
  rw [hk j (by omega), upd_ne _ _ (by omega)]
/- Sums, and how long: the document's. -/
theorem hx_kind {h : Hp} {n : Nat} {v : AVal} {a m : Nat} (hb : Bt h n v a m) : v.cells = [v] ∧ oneCell v = true ∧ isJunk v = false := by
  obtain ⟨id, _, rfl, _⟩ := hb
  exact ⟨rfl, rfl, rfl⟩
theorem f43 (a : Nat) (h : Hp) (n : Nat) (ha : a < 18446744073709551616) : Wp (callI env (evalW env) 43 [.int .u64 (a : Nat)]) h n fun v' h' n' => v' = W a ∧ Old h h' n := by
  refine wp_callI ff43 fi43 ?_
  simp (disch := omega) only [fu43, Try.f43, Option.getD_some, List.replicate, core1, tyr, fgr, execOp, opd, ofValue, putT, put, nth, forgetL, und, sizeOf, zeroOf, idx, readCells, cellsOf, aggB, cel, alloc, doAlloc, newRow, ended, resultOf, oneOrTup, rowK, moved, List.cons_append, List.nil_append, List.length_cons, List.length_nil, Nat.reduceAdd, Nat.reduceSub, Int.cast_ofNat_Int, Int.reduceLT, Int.reduceLE, not_false_eq_true, decide_true, Bool.and_true, true_and, Nat.zero_add, Int.toNat_zero, Nat.zero_mul, wp_pure, reduceCtorEq, memr, List.take_succ_cons, List.take_zero, List.drop_zero, Nat.ble, writeCells, setAll, Cont.size, Cont.set, Cont.sub, upd_same, upd_ne, List.all_cons, List.all_nil, Option.some.injEq, exists_eq_left', ne_eq, true_and, List.length_cons, List.length_nil, Nat.zero_mul, wp_get, wp_ob]
  exact ⟨W_eq (a := a) (b := 0) (c := 0) (d := 0) (by unfold of4; omega) ha (by decide) (by decide) (by decide), fun j hj => by simp (disch := omega) only [upd_ne]⟩
theorem f47 (a b : Nat) (h : Hp) (n : Nat) (ha : a < b256) (hb : b < b256) (hf : Free h n) : Wp (callI env (evalW env) 47 [W a, W b]) h n fun v' h' n' => v' = .tup [W ((a + b) % b256), .bool (decide (b256 ≤ a + b))] ∧ Old h h' n := by
  refine wp_callI ff47 fi47 ?_
  have hw : ∀ c, W c = .agg [.int .u64 (wd c 0 : Nat), .int .u64 (wd c 1 : Nat), .int .u64 (wd c 2 : Nat), .int .u64 (wd c 3 : Nat)] := fun _ => rfl
  rw [hw a, hw b]
  simp (disch := omega) only [fu47, Try.f47, Option.getD_some, List.replicate, core1, tyr, fgr, execOp, opd, ofValue, putT, put, nth, forgetL, zeroOf, cel, alloc, doAlloc, newRow, ended, resultOf, oneOrTup, List.cons_append, List.nil_append, List.length_cons, List.length_nil, Nat.reduceAdd, Nat.reduceSub, Nat.zero_add, List.length_cons, List.length_nil]
  obtain ⟨G, hG⟩ : ∃ G, G = upd (upd (upd h n (some (Blk.row (Cont.l [AVal.int IntKind.u64 (wd a 0 : Nat), AVal.int IntKind.u64 (wd a 1 : Nat), AVal.int IntKind.u64 (wd a 2 : Nat), AVal.int IntKind.u64 (wd a 3 : Nat)]) 25))) (n + 1) (some (Blk.row (Cont.l [AVal.int IntKind.u64 (wd b 0 : Nat), AVal.int IntKind.u64 (wd b 1 : Nat), AVal.int IntKind.u64 (wd b 2 : Nat), AVal.int IntKind.u64 (wd b 3 : Nat)]) 25))) (n + 1 + 1) (some (Blk.row (Cont.l [AVal.int IntKind.u64 0, AVal.int IntKind.u64 0, AVal.int IntKind.u64 0, AVal.int IntKind.u64 0]) 25)) := ⟨_, rfl⟩
  rw [← hG]
  have g2 : Arr .u64 G n 4 (fun j => (wd a j : Nat)) := arr_W (by rw [hG, upd_ne _ _ (by omega), upd_ne _ _ (by omega)]; exact upd_same _ _ _)
  have g3 : Arr .u64 G (n + 1) 4 (fun j => (wd b j : Nat)) := arr_W (by rw [hG, upd_ne _ _ (by omega)]; exact upd_same _ _ _)
  have g4 : Arr .u64 G (n + 1 + 1) 4 (fun _ => 0) := arr_0 (by rw [hG]; exact upd_same _ _ _)
  have fG : Free G (n + 1 + 1 + 1) := by rw [hG]; exact ((hf.new).new).new
  have oG : Old h G n := fun j hj => by rw [hG]; simp (disch := omega) only [upd_ne]
  refine run_draw.2 ⟨rfl, ?_⟩
  simp only [fe_cons, execOp, opd, nth]
  rw [fev_rd (g2.all ti25 rfl rfl), range4]
  simp only [fe_cons, hkr, execOp, opd, opds, putT, put, nth, doCall, callV_func, List.nil_append, List.append_nil, Nat.zero_add]
  refine fev_free fG (f44 a _ _) (f44 a _ _) fun x h1 n1 hn1 hf1 ⟨bx, ix, ox⟩ => ?_
  have kx := hx_kind bx
  have g3 := g3.keep (ox _ (by omega))
  simp only [fe_cons, execOp, opd, putT, put, nth, Nat.reduceAdd]
  rw [fev_rd (g3.all ti25 rfl rfl), range4]
  simp only [fe_cons, hkr, execOp, opd, opds, putT, put, nth, doCall, callV_func, List.nil_append, List.append_nil, Nat.reduceAdd]
  refine fev_free hf1 (f44 b _ _) (f44 b _ _) fun y h2 n2 hn2 hf2 ⟨by_, iy, oy⟩ => ?_
  have ky := hx_kind by_
  simp only [fe_cons, hkr, execOp, opd, opds, putT, put, nth, doCall, callV_func, List.nil_append, List.append_nil, Nat.reduceAdd]
  refine fev_any hf2 (f64 x y a b 256 (by decide) h2 n2 (bx.old oy hn2) by_) fun v3 h3 n3 rr ww hn3 hf3 ⟨o, e3, bo, io, oo⟩ => ?_
  subst e3
  have ko := hx_kind bo
  simp only [fe_nil, fe_cons, fev_pure, core1, fgr, hkr, execOp, opd, opds, putT, put, nth, forgetL, doCall, callV_func, extract, getO, List.getElem?_cons_succ, List.getElem?_cons_zero, List.nil_append, List.append_nil, Nat.reduceAdd]
  refine ⟨(by (try simp (disch := omega) only [fine, List.all_cons, List.all_nil, clash_pr, clash_rr, Bool.not_false, Bool.true_or, Bool.and_true, Bool.true_and, clash_nn, clash_xn, clash_nx]); repeat' (first | rfl | exact (Bool.or_eq_true _ _).mpr (.inr rfl) | refine (Bool.and_eq_true _ _).mpr ⟨?_, ?_⟩)), ?_⟩
  obtain ⟨id, hid, _, hn⟩ := bo.nums
  refine opv_callf hf3 (f65 o (a + b) id 0 256 _ (fun j hj => by rw [Nat.zero_add]) h3 n3 hid hn) fun v4 h4 n4 hn4 hf4 ⟨e4, o4⟩ => ?_
  subst e4
  have hcar : decide ((0 : Int) < (((a % 2 ^ 256 + b % 2 ^ 256) / 2 ^ 256 : Nat) : Int)) = decide (b256 ≤ a + b) := by
    rw [← p256, Nat.mod_eq_of_lt ha, Nat.mod_eq_of_lt hb]
    by_cases hc : b256 ≤ a + b
    · have : 0 < (a + b) / b256 := Nat.div_pos hc (by decide)
      rw [decide_eq_true hc, decide_eq_true (by omega)]
    · rw [decide_eq_false hc, Nat.div_eq_of_lt (by omega)]; rfl
  have k4 : Arr .u64 h4 (n + 1 + 1) 4 (fun _ => 0) := g4.keep ((o4 _ (by omega)).trans ((oo _ (by omega)).trans ((oy _ (by omega)).trans (ox _ (by omega)))))
  simp only [core1, execOp, opd, ofValue, putT, put, nth, bor, binInt, shiftB, intOp, gt_iff_lt, decide_true, W]
  refine opv_all4 k4 ti25 rfl fun bb hbb => ?_
  simp only [core1, fgr, execOp, opd, putT, put, nth, forgetL, true_and, wp_pure, wp_rd (hbb.all ti25 rfl rfl), range4, pick4, hcar]
  intro j hj
  rw [upd_ne _ _ (by omega), o4 j (by omega), oo j (by omega), oy j (by omega), ox j (by omega)]
  exact oG j hj
/-- How many bits a number has. -/
def isLen (a L : Nat) : Prop := a < 2 ^ L ∧ (L = 0 ∨ 2 ^ (L - 1) ≤ a)
theorem loop45 (Q : Post0) (ks : List Kf) (a id n : Nat) (v y1 y2 : AVal) (h : Hp) (hv : Nums .i64 h v id 0 256 256 (bit a))
    (hq : ∀ (L : Nat) (x0 x16 : AVal), L ≤ 256 → isLen a L → Kont env 45 none Q ks (.exit 0) (x0 :: y1 :: y2 :: v :: .int .i64 (L : Nat) :: AVal.junk :: AVal.junk :: AVal.junk :: AVal.junk :: AVal.junk :: AVal.junk :: AVal.junk :: AVal.junk :: AVal.junk :: AVal.junk :: AVal.junk :: x16 :: AVal.junk :: AVal.junk :: AVal.junk :: []) h n) :
    ∀ (i : Nat) (x0 x16 : AVal), i ≤ 256 → a < 2 ^ i →
    Run env 45 none Q (.loop lp45_0) ks (x0 :: y1 :: y2 :: v :: .int .i64 (i : Nat) :: AVal.junk :: AVal.junk :: AVal.junk :: AVal.junk :: AVal.junk :: AVal.junk :: AVal.junk :: AVal.junk :: AVal.junk :: AVal.junk :: AVal.junk :: x16 :: AVal.junk :: AVal.junk :: AVal.junk :: []) h n := by
  intro i
  induction i with
  | zero =>
    intro x0 x16 hi ha
    have hc : ¬ (0 : Int) < ((0 : Nat) : Int) := by decide
    rw [run_loop]
    simp only [lp45_0, loopsOf, Try.f45, Option.getD_some, core1, fgr, execOp, opd, ofValue, putT, put, nth, forgetL, bor, binInt, shiftB, intOp, doPick, branch, List.getElem?_cons_succ, List.getElem?_cons_zero, List.nil_append, List.append_nil, Int.cast_ofNat_Int, Int.reduceLT, gt_iff_lt, decide_true, decide_false, List.getD_cons_zero]
    exact hq 0 _ _ (Nat.zero_le _) ⟨ha, .inl rfl⟩
  | succ i ih =>
    intro x0 x16 hi ha
    have hc : (0 : Int) < ((i + 1 : Nat) : Int) := by omega
    have hw : IntKind.i64.wrap (((i + 1 : Nat) : Int) - 1) = ((i : Nat) : Int) := by rw [w64 (by omega) (by omega)]; omega
    rw [run_loop]
    simp only [lp45_0, loopsOf, Try.f45, Option.getD_some, core1, execOp, opd, ofValue, putT, put, nth, bor, binInt, shiftB, intOp, wrapI, List.getElem?_cons_succ, List.getElem?_cons_zero, List.nil_append, List.append_nil, gt_iff_lt, decide_true, List.getD_cons_zero, hc, hw]
    rw [opv_rd (hv.idx0 t78 s3 rfl (show i < 256 by omega))]
    simp only [core1, execOp, opd, putT, put, nth, List.getElem?_cons_succ, List.getElem?_cons_zero]
    rw [opv_rd (hv.load0 ti3 rfl (show i < 256 by omega))]
    have hdiv : a / 2 ^ i < 2 := by
      rw [Nat.div_lt_iff_lt_mul (Nat.two_pow_pos _), Nat.mul_comm]
      rw [Nat.pow_succ] at ha
      exact ha
    rcases bit_lt a i with hb | hb
    · have h0 : a / 2 ^ i = 0 := by
        unfold bit at hb
        generalize a / 2 ^ i = q at hb hdiv ⊢
        omega
      simp only [core1, fgr, execOp, opd, ofValue, putT, put, nth, forgetL, bor, binInt, shiftB, intOp, wrapI, doPick, branch, List.getElem?_cons_succ, List.getElem?_cons_zero, decide_true, beq_self_eq_true, hb, hw]
      refine ih _ _ (by omega) ?_
      rcases Nat.lt_or_ge a (2 ^ i) with q | q
      · exact q
      · have := Nat.div_pos q (Nat.two_pow_pos i)
        omega
    · have h1 : 2 ^ i ≤ a := by
        rcases Nat.lt_or_ge a (2 ^ i) with q | q
        · have h0 : a / 2 ^ i = 0 := Nat.div_eq_of_lt q
          unfold bit at hb
          rw [h0] at hb
          simp at hb
        · exact q
      simp only [core1, fgr, execOp, opd, ofValue, putT, put, nth, forgetL, bor, binInt, shiftB, intOp, doPick, branch, List.getElem?_cons_succ, List.getElem?_cons_zero, int_beq, Int.reduceEq, decide_true, decide_false, hb]
      exact hq (i + 1) _ _ hi ⟨ha, .inr h1⟩
theorem f45 (a : Nat) (h : Hp) (n : Nat) (ha : a < b256) (hf : Free h n) : Wp (callI env (evalW env) 45 [W a]) h n fun v' h' n' => (∃ L : Nat, v' = .int .i64 (L : Nat) ∧ L ≤ 256 ∧ isLen a L) ∧ Old h h' n := by
  refine wp_callI ff45 fi45 ?_
  simp (disch := omega) only [fu45, Try.f45, Option.getD_some, List.replicate, core1, tyr, fgr, hkr, execOp, opd, opds, ofValue, putT, put, nth, forgetL, doCall, callV_func, readCells, cellsOf, aggB, cel, alloc, newRow, ended, resultOf, oneOrTup, rowK, List.cons_append, List.nil_append, List.append_nil, List.length_cons, List.length_nil, Nat.reduceAdd, Nat.reduceSub, true_and, Nat.zero_add, wp_pure, memr, List.take_succ_cons, List.take_zero, List.drop_zero, Nat.ble, Cont.size, Cont.sub, upd_same, Option.some.injEq, exists_eq_left', true_and, List.length_cons, List.length_nil, W]
  refine opv_callf hf.new (f44 a _ _) fun x h1 n1 hn1 hf1 ⟨bx, ix, ox⟩ => ?_
  obtain ⟨id, hid, _, hn⟩ := bx.nums
  simp only [core1, fgr, execOp, opd, ofValue, putT, put, nth, forgetL]
  refine loop45 _ _ a id n1 x _ _ h1 hn ?_ 256 _ _ (Nat.le_refl _) (by rw [← p256]; exact ha)
  intro L x0 x16 hL hl
  simp only [core1, fgr, execOp, opd, putT, put, nth, forgetL, true_and]
  exact ⟨⟨L, rfl, hL, hl⟩, ((Old.refl _ _).upd (Nat.le_refl _)).trans ox (by omega)⟩
theorem len_zero {a L : Nat} (hl : isLen a L) : L = 0 ↔ a = 0 := by
  obtain ⟨h1, h2⟩ := hl
  constructor
  · intro e; subst e; simpa using h1
  · intro e
    subst e
    rcases h2 with h2 | h2
    · exact h2
    · have := Nat.two_pow_pos (L - 1); omega
theorem f41 (a : Nat) (h : Hp) (n : Nat) (ha : a < b256) (hf : Free h n) : Wp (callI env (evalW env) 41 [W a]) h n fun v' h' n' => v' = .bool (decide (a = 0)) ∧ Old h h' n := by
  refine wp_callI ff41 fi41 ?_
  simp (disch := omega) only [fu41, Try.f41, Option.getD_some, List.replicate, core1, tyr, fgr, hkr, execOp, opd, opds, ofValue, putT, put, nth, forgetL, doCall, callV_func, readCells, cellsOf, aggB, cel, alloc, newRow, ended, resultOf, oneOrTup, rowK, List.cons_append, List.nil_append, List.append_nil, List.length_cons, List.length_nil, Nat.reduceAdd, Nat.reduceSub, true_and, Nat.zero_add, wp_pure, memr, List.take_succ_cons, List.take_zero, List.drop_zero, Nat.ble, Cont.size, Cont.sub, upd_same, Option.some.injEq, exists_eq_left', true_and, List.length_cons, List.length_nil, W]
  refine opv_callf hf.new (f45 a _ _ ha hf.new) fun x h1 n1 hn1 hf1 ⟨⟨L, e1, hL, hl⟩, o1⟩ => ?_
  subst e1
  simp only [core1, fgr, execOp, opd, ofValue, putT, put, nth, forgetL, bor, binInt, shiftB, intOp, int_beq, decide_true, true_and]
  refine ⟨?_, ((Old.refl _ _).upd (Nat.le_refl _)).trans o1 (by omega)⟩
  have hz := len_zero hl
  by_cases e : a = 0
  · rw [decide_eq_true e, decide_eq_true (by have := hz.2 e; omega)]
  · rw [decide_eq_false e, decide_eq_false (fun q => e (hz.1 (by omega)))]
/- Moved, compared, the other way round: the document's. -/
theorem bit_left (a m j : Nat) : bit (a * 2 ^ m) j = if j < m then 0 else bit a (j - m) := by
  unfold bit
  by_cases h : j < m
  · rw [if_pos h, show m = j + (m - j) by omega, mul_div_pow, show m - j = (m - j - 1) + 1 by omega, Nat.pow_succ, ← Nat.mul_assoc, Nat.mul_mod_left]; rfl
  · rw [if_neg h]
    have : a * 2 ^ m / 2 ^ j = a / 2 ^ (j - m) := by
      rw [show j = m + (j - m) by omega, Nat.pow_add, Nat.mul_comm a, Nat.mul_div_mul_left _ _ (Nat.two_pow_pos _), Nat.add_sub_cancel_left]
    rw [this]
theorem loop46 (Q : Post0) (ks : List Kf) (a m id io n : Nat) (v o y2 y4 : AVal) (d1 : id ≠ io) (h0 : Hp)
    (hq : ∀ (h : Hp) (x0 x1 x2 x5 x7 x9 x16 : AVal), Nums .i64 h o io 0 256 256 (bit (a * 2 ^ m)) → (∀ j, j ≠ io → h j = h0 j) → Kont env 46 none Q ks (.exit 0) (x0 :: x1 :: x2 :: AVal.junk :: y4 :: x5 :: o :: x7 :: AVal.junk :: x9 :: AVal.junk :: AVal.junk :: AVal.junk :: AVal.junk :: AVal.junk :: AVal.junk :: x16 :: AVal.junk :: AVal.junk :: AVal.junk :: AVal.junk :: AVal.junk :: AVal.junk :: AVal.junk :: AVal.junk :: AVal.junk :: AVal.junk :: AVal.junk :: AVal.junk :: AVal.junk :: []) h n) :
    ∀ (i : Nat) (h : Hp) (x0 x2 x9 x16 : AVal), i ≤ 256 → Nums .i64 h v id 0 256 256 (bit a) → Nums .i64 h o io 0 256 256 (fun j => if i ≤ j then bit (a * 2 ^ m) j else 0) → (∀ j, j ≠ io → h j = h0 j) →
    Run env 46 none Q (.loop lp46_0) ks (x0 :: .int .i64 (m : Nat) :: x2 :: AVal.junk :: y4 :: v :: o :: .int .i64 (((i : Nat) : Int) - 1) :: AVal.junk :: x9 :: AVal.junk :: AVal.junk :: AVal.junk :: AVal.junk :: AVal.junk :: AVal.junk :: x16 :: AVal.junk :: AVal.junk :: AVal.junk :: AVal.junk :: AVal.junk :: AVal.junk :: AVal.junk :: AVal.junk :: AVal.junk :: AVal.junk :: AVal.junk :: AVal.junk :: AVal.junk :: []) h n := by
  intro i
  induction i with
  | zero =>
    intro h x0 x2 x9 x16 hi hv ho hk
    have hc : ¬ ((m : Nat) : Int) ≤ -1 := by omega
    rw [run_loop]
    simp only [lp46_0, loopsOf, Try.f46, Option.getD_some, core1, fgr, execOp, opd, putT, put, nth, forgetL, bor, binInt, shiftB, intOp, List.nil_append, List.append_nil, Int.cast_ofNat_Int, Int.reduceSub, Int.reduceNeg, ge_iff_le, decide_true, decide_false, List.getD_cons_zero, hc]
    exact hq h _ _ _ _ _ _ _ (ho.ext fun j hj => if_pos (Nat.zero_le _)) hk
  | succ i ih =>
    intro h x0 x2 x9 x16 hi hv ho hk
    have hs : ((i + 1 : Nat) : Int) - 1 = ((i : Nat) : Int) := by omega
    by_cases hmi : m ≤ i
    · have hc : ((m : Nat) : Int) ≤ ((i : Nat) : Int) := by omega
      have hw : IntKind.i64.wrap (((i : Nat) : Int) - 1) = ((i : Nat) : Int) - 1 := w64 (by omega) (by omega)
      have hw2 : IntKind.i64.wrap (((i : Nat) : Int) - ((m : Nat) : Int)) = ((i - m : Nat) : Int) := by rw [w64 (by omega) (by omega)]; omega
      rw [run_loop]
      simp only [lp46_0, loopsOf, Try.f46, Option.getD_some, core1, fgr, execOp, opd, putT, put, nth, forgetL, bor, binInt, shiftB, intOp, wrapI, List.nil_append, List.append_nil, ge_iff_le, decide_true, List.getD_cons_zero, hs, hc, hw2]
      rw [opv_rd (hv.idx0 t78 s3 rfl (show i - m < 256 by omega))]
      simp only [core1, execOp, opd, putT, put, nth]
      rw [opv_rd (hv.load0 ti3 rfl (show i - m < 256 by omega))]
      simp only [core1, execOp, opd, putT, put, nth]
      rw [opv_rd (ho.idx0 t78 s3 rfl (show i < 256 by omega))]
      simp only [core1, execOp, opd, putT, put, nth]
      refine ho.store0 ti3 rfl (show i < 256 by omega) fun b hb => ?_
      simp only [core1, fgr, execOp, opd, ofValue, putT, put, nth, forgetL, bor, binInt, shiftB, intOp, wrapI, decide_true, hw]
      refine ih _ _ _ _ _ (by omega) (hv.upd d1) (hb.ext fun j hj => ?_) (fun j hj => by rw [upd_ne _ _ hj]; exact hk j hj)
      by_cases e : j = i
      · simp only [if_pos e, if_pos (show i ≤ j by omega)]
        rw [bit_left, if_neg (by omega), e]
      · by_cases e2 : i + 1 ≤ j
        · simp only [if_neg e, if_pos e2, if_pos (show i ≤ j by omega)]
        · simp only [if_neg e, if_neg e2, if_neg (show ¬ i ≤ j by omega)]
    · have hc : ¬ ((m : Nat) : Int) ≤ ((i : Nat) : Int) := by omega
      rw [run_loop]
      simp only [lp46_0, loopsOf, Try.f46, Option.getD_some, core1, fgr, execOp, opd, putT, put, nth, forgetL, bor, binInt, shiftB, intOp, List.nil_append, List.append_nil, ge_iff_le, decide_true, decide_false, List.getD_cons_zero, hs, hc]
      refine hq h _ _ _ _ _ _ _ (ho.ext fun j hj => ?_) hk
      by_cases e2 : i + 1 ≤ j
      · rw [if_pos e2]
      · rw [if_neg e2, bit_left, if_pos (by omega)]
theorem f46 (a : Nat) (z : Int) (h : Hp) (n : Nat) (ha : a < b256) (hz : z ≤ 1000) (hf : Free h n) : Wp (callI env (evalW env) 46 [W a, .int .i64 z]) h n fun v' h' n' => v' = W (leftV a z) ∧ Old h h' n := by
  refine wp_callI ff46 fi46 ?_
  by_cases h0 : z ≤ 0
  · have e : leftV a z = a := if_pos h0
    simp (disch := omega) only [fu46, Try.f46, Option.getD_some, List.replicate, core1, tyr, fgr, execOp, opd, ofValue, putT, put, nth, forgetL, zeroOf, bor, binInt, shiftB, intOp, readCells, cellsOf, aggB, cel, alloc, doAlloc, newRow, ended, resultOf, oneOrTup, rowK, List.cons_append, List.nil_append, List.length_cons, List.length_nil, Nat.reduceAdd, Nat.reduceSub, not_false_eq_true, decide_true, Bool.and_true, true_and, Nat.zero_add, wp_pure, reduceCtorEq, memr, List.take_succ_cons, List.take_zero, List.drop_zero, Nat.ble, writeCells, setAll, Cont.size, Cont.set, Cont.sub, upd_same, upd_ne, List.all_cons, List.all_nil, Option.some.injEq, exists_eq_left', ne_eq, true_and, List.length_cons, List.length_nil, W, h0, wp_get, wp_ob]
    rw [e]
    exact ⟨by trivial, fun j hj => by simp (disch := omega) only [upd_ne]⟩
  · obtain ⟨m, rfl⟩ := Int.eq_ofNat_of_zero_le (show 0 ≤ z by omega)
    have e : leftV a (m : Int) = a * 2 ^ m % b256 := by unfold leftV; rw [if_neg h0, Int.toNat_natCast]
    have h0' : ¬ ((m : Nat) : Int) ≤ 0 := h0
    rw [e]
    simp (disch := omega) only [fu46, Try.f46, Option.getD_some, List.replicate, core1, tyr, fgr, hkr, execOp, opd, opds, ofValue, putT, put, nth, forgetL, doCall, callV_func, zeroOf, bor, binInt, shiftB, intOp, readCells, cellsOf, aggB, cel, alloc, doAlloc, newRow, ended, resultOf, oneOrTup, rowK, List.cons_append, List.nil_append, List.append_nil, List.length_cons, List.length_nil, Nat.reduceAdd, Nat.reduceSub, decide_true, decide_false, true_and, Nat.zero_add, memr, List.take_succ_cons, List.take_zero, List.drop_zero, Nat.ble, Cont.size, Cont.sub, upd_same, upd_ne, Option.some.injEq, exists_eq_left', true_and, List.length_cons, List.length_nil, W, h0']
    refine opv_callf (hf.new).new (f44 a _ _) fun x h1 n1 hn1 hf1 ⟨bx, ix, ox⟩ => ?_
    obtain ⟨id, hid, _, hn⟩ := bx.nums
    simp only [core1, fgr, execOp, opd, ofValue, putT, put, nth, forgetL]
    refine nums_make (m := 256) rfl t78 ti3 rfl rfl (by decide) (by decide) fun ho => ?_
    simp only [core1, fgr, execOp, opd, ofValue, putT, put, nth, forgetL]
    have h4 : Arr .u64 h1 (n + 1) 4 (fun _ => 0) := arr_0 ((ox _ (by omega)).trans (upd_same _ _ _))
    refine loop46 _ _ a m id n1 (n1 + 1) x _ x _ (by omega) _ ?_ 256 _ _ _ _ _ (Nat.le_refl _) (hn.upd (by omega)) (ho.ext fun j hj => by rw [if_neg (by omega)]) (fun _ _ => rfl)
    intro h2 x0 x1 x2 x5 x7 x9 x16 hv hk
    simp only [core1, hkr, execOp, opd, opds, putT, put, nth, doCall, callV_func, List.nil_append, List.append_nil]
    refine opv_call (f65 _ (a * 2 ^ m) n1 0 256 _ (fun j hj => by rw [Nat.zero_add]) h2 (n1 + 1) (by omega) hv) fun v4 h3 n4 hn4 ⟨e4, o4⟩ => ?_
    subst e4
    have k4 : Arr .u64 h3 (n + 1) 4 (fun _ => 0) := h4.keep ((o4 _ (by omega)).trans ((hk _ (by omega)).trans (upd_ne _ _ (by omega))))
    simp only [core1, execOp, opd, putT, put, nth, W]
    refine opv_all4 k4 ti25 rfl fun bb hbb => ?_
    simp only [core1, fgr, putT, nth, forgetL, true_and, wp_pure, wp_rd (hbb.all ti25 rfl rfl), range4, pick4]
    intro j hj
    rw [upd_ne _ _ (by omega), o4 j (by omega), hk j (by omega), upd_ne _ _ (by omega), ox j (by omega)]
    simp (disch := omega) only [upd_ne]
/- Compared, the other way round: the document's. -/
def cmpV (a b : Nat) : Int := if a = b then 0 else if a < b then -1 else 1
theorem half_bit (a i : Nat) : a / 2 ^ i = 2 * (a / 2 ^ (i + 1)) + a / 2 ^ i % 2 := half_step a i
theorem loop48 (Q : Post0) (ks : List Kf) (a b ix iy n : Nat) (x y : AVal) (h : Hp) (hx : Nums .i64 h x ix 0 256 256 (bit a)) (hy : Nums .i64 h y iy 0 256 256 (bit b))
    (hE : a = b → ∀ (x0 x1 x2 x3 x5 x6 x7 x13 x24 x33 : AVal), Kont env 48 none Q ks (.exit 0) (x0 :: x1 :: x2 :: x3 :: .int .i64 0 :: x5 :: x6 :: x7 :: AVal.junk :: AVal.junk :: AVal.junk :: AVal.junk :: AVal.junk :: x13 :: AVal.junk :: AVal.junk :: AVal.junk :: AVal.junk :: AVal.junk :: AVal.junk :: AVal.junk :: AVal.junk :: AVal.junk :: AVal.junk :: x24 :: AVal.junk :: AVal.junk :: AVal.junk :: AVal.junk :: AVal.junk :: AVal.junk :: AVal.junk :: AVal.junk :: x33 :: []) h n)
    (hR : ¬ a = b → ∀ (x0 x1 x2 x3 x5 x6 x7 x13 x24 x33 : AVal), Kont env 48 none Q ks .ret (x0 :: x1 :: x2 :: x3 :: .int .i64 (cmpV a b) :: x5 :: x6 :: x7 :: AVal.junk :: AVal.junk :: AVal.junk :: AVal.junk :: AVal.junk :: x13 :: AVal.junk :: AVal.junk :: AVal.junk :: AVal.junk :: AVal.junk :: AVal.junk :: AVal.junk :: AVal.junk :: AVal.junk :: AVal.junk :: x24 :: AVal.junk :: AVal.junk :: AVal.junk :: AVal.junk :: AVal.junk :: AVal.junk :: AVal.junk :: AVal.junk :: x33 :: []) h n) :
    ∀ (i : Nat) (x0 x1 x2 x3 x13 x24 x33 : AVal), i ≤ 256 → a / 2 ^ i = b / 2 ^ i →
    Run env 48 none Q (.loop lp48_0) ks (x0 :: x1 :: x2 :: x3 :: .int .i64 0 :: x :: y :: .int .i64 (((i : Nat) : Int) - 1) :: AVal.junk :: AVal.junk :: AVal.junk :: AVal.junk :: AVal.junk :: x13 :: AVal.junk :: AVal.junk :: AVal.junk :: AVal.junk :: AVal.junk :: AVal.junk :: AVal.junk :: AVal.junk :: AVal.junk :: AVal.junk :: x24 :: AVal.junk :: AVal.junk :: AVal.junk :: AVal.junk :: AVal.junk :: AVal.junk :: AVal.junk :: AVal.junk :: x33 :: []) h n := by
  intro i
  induction i with
  | zero =>
    intro x0 x1 x2 x3 x13 x24 x33 hi he
    have hc : ¬ (0 : Int) ≤ -1 := by decide
    rw [run_loop]
    simp only [lp48_0, loopsOf, Try.f48, Option.getD_some, core1, fgr, execOp, opd, ofValue, putT, put, nth, forgetL, bor, binInt, shiftB, intOp, List.nil_append, List.append_nil, Int.cast_ofNat_Int, Int.reduceSub, Int.reduceNeg, ge_iff_le, decide_true, decide_false, List.getD_cons_zero, hc]
    exact hE (by simpa using he) _ _ _ _ _ _ _ _ _ _
  | succ i ih =>
    intro x0 x1 x2 x3 x13 x24 x33 hi he
    have hs : ((i + 1 : Nat) : Int) - 1 = ((i : Nat) : Int) := by omega
    have hc : (0 : Int) ≤ ((i : Nat) : Int) := by omega
    have h4 : i < 256 := by omega
    have hw : IntKind.i64.wrap (((i : Nat) : Int) - 1) = ((i : Nat) : Int) - 1 := w64 (by omega) (by omega)
    have ea := half_bit a i
    have eb := half_bit b i
    have hlt : ∀ p q : Nat, p / 2 ^ i < q / 2 ^ i → p < q := fun p q hpq => by
      rcases Nat.lt_or_ge p q with r | r
      · exact r
      · have := Nat.div_le_div_right (c := 2 ^ i) r
        omega
    have da : bit a i = ((a / 2 ^ i % 2 : Nat) : Int) := rfl
    have db : bit b i = ((b / 2 ^ i % 2 : Nat) : Int) := rfl
    rw [run_loop]
    simp only [lp48_0, loopsOf, Try.f48, Option.getD_some, core1, fgr, execOp, opd, ofValue, putT, put, nth, forgetL, bor, binInt, shiftB, intOp, List.nil_append, List.append_nil, Int.reduceNeg, ge_iff_le, decide_true, List.getD_cons_zero, hs, hc]
    refine run_draw.2 ⟨rfl, ?_⟩
    simp only [fe_cons, fev_pure, execOp, opd, putT, put, nth, Nat.reduceAdd, Int.reduceNeg, Nat.zero_add]
    rw [fev_rd (hx.idx0 t78 s3 rfl h4)]
    simp only [fe_cons, execOp, opd, putT, put, nth, Nat.reduceAdd, Int.reduceNeg]
    rw [fev_rd (hx.load0 ti3 rfl h4)]
    simp only [fe_cons, fev_pure, execOp, opd, putT, put, nth, Nat.reduceAdd, Int.reduceNeg]
    rw [fev_rd (hy.idx0 t78 s3 rfl h4)]
    simp only [fe_cons, execOp, opd, putT, put, nth, Nat.reduceAdd, Int.reduceNeg]
    rw [fev_rd (hy.load0 ti3 rfl h4)]
    simp only [fe_nil, fe_cons, fev_pure, core1, fgr, execOp, opd, putT, put, nth, forgetL, bor, binInt, shiftB, intOp, Nat.reduceAdd, Int.reduceNeg, decide_true]
    refine ⟨(by (try simp (disch := omega) only [fine, List.all_cons, List.all_nil, clash_pr, clash_rr, Bool.not_false, Bool.true_or, Bool.and_true]); repeat' (first | rfl | exact (Bool.or_eq_true _ _).mpr (.inr rfl) | refine (Bool.and_eq_true _ _).mpr ⟨?_, ?_⟩)), ?_⟩
    by_cases c1 : bit a i < bit b i
    · have hab : a < b := hlt a b (by
        rw [da, db] at c1
        generalize a / 2 ^ i = p at *
        generalize b / 2 ^ i = q at *
        omega)
      have hcm : cmpV a b = -1 := by unfold cmpV; rw [if_neg (by omega), if_pos hab]
      simp only [core1, fgr, execOp, opd, ofValue, putT, put, forgetL, Int.reduceNeg, decide_true, c1]
      rw [← hcm]
      exact hR (by omega) _ _ _ _ _ _ _ _ _ _
    · simp only [core1, Int.reduceNeg, decide_false, c1]
      refine run_draw.2 ⟨rfl, ?_⟩
      simp only [fe_cons, fev_pure, execOp, opd, putT, put, nth, Nat.reduceAdd, Int.reduceNeg, Nat.zero_add]
      rw [fev_rd (hx.idx0 t78 s3 rfl h4)]
      simp only [fe_cons, execOp, opd, putT, put, nth, Nat.reduceAdd, Int.reduceNeg]
      rw [fev_rd (hx.load0 ti3 rfl h4)]
      simp only [fe_cons, fev_pure, execOp, opd, putT, put, nth, Nat.reduceAdd, Int.reduceNeg]
      rw [fev_rd (hy.idx0 t78 s3 rfl h4)]
      simp only [fe_cons, execOp, opd, putT, put, nth, Nat.reduceAdd, Int.reduceNeg]
      rw [fev_rd (hy.load0 ti3 rfl h4)]
      simp only [fe_nil, fe_cons, fev_pure, core1, fgr, execOp, opd, putT, put, nth, forgetL, bor, binInt, shiftB, intOp, Nat.reduceAdd, Int.reduceNeg, gt_iff_lt, decide_true]
      refine ⟨(by (try simp (disch := omega) only [fine, List.all_cons, List.all_nil, clash_pr, clash_rr, Bool.not_false, Bool.true_or, Bool.and_true]); repeat' (first | rfl | exact (Bool.or_eq_true _ _).mpr (.inr rfl) | refine (Bool.and_eq_true _ _).mpr ⟨?_, ?_⟩)), ?_⟩
      by_cases c2 : bit b i < bit a i
      · have hab : b < a := hlt b a (by
          rw [da, db] at c2
          generalize a / 2 ^ i = p at *
          generalize b / 2 ^ i = q at *
          omega)
        have hcm : cmpV a b = 1 := by unfold cmpV; rw [if_neg (by omega), if_neg (by omega)]
        simp only [core1, fgr, execOp, opd, ofValue, putT, put, forgetL, Int.reduceNeg, decide_true, c2]
        rw [← hcm]
        exact hR (by omega) _ _ _ _ _ _ _ _ _ _
      · simp only [core1, fgr, execOp, opd, ofValue, putT, put, nth, forgetL, bor, binInt, shiftB, intOp, wrapI, Int.reduceNeg, decide_true, decide_false, c2, hw]
        refine ih _ _ _ _ _ _ _ (by omega) ?_
        rw [da, db] at c1 c2
        generalize a / 2 ^ i = p at *
        generalize b / 2 ^ i = q at *
        omega
theorem f48 (a b : Nat) (h : Hp) (n : Nat) (ha : a < b256) (hb : b < b256) (hf : Free h n) : Wp (callI env (evalW env) 48 [W a, W b]) h n fun v' h' n' => v' = .int .i64 (cmpV a b) ∧ Old h h' n := by
  refine wp_callI ff48 fi48 ?_
  have hw : ∀ c, W c = .agg [.int .u64 (wd c 0 : Nat), .int .u64 (wd c 1 : Nat), .int .u64 (wd c 2 : Nat), .int .u64 (wd c 3 : Nat)] := fun _ => rfl
  rw [hw a, hw b]
  simp (disch := omega) only [fu48, Try.f48, Option.getD_some, List.replicate, core1, tyr, fgr, hkr, execOp, opd, opds, ofValue, putT, put, nth, forgetL, doCall, callV_func, readCells, cellsOf, aggB, cel, alloc, newRow, ended, resultOf, oneOrTup, rowK, List.cons_append, List.nil_append, List.append_nil, List.length_cons, List.length_nil, Nat.reduceAdd, Nat.reduceSub, Int.reduceNeg, true_and, Nat.zero_add, wp_pure, memr, List.take_succ_cons, List.take_zero, List.drop_zero, Nat.ble, Cont.size, Cont.sub, upd_same, upd_ne, Option.some.injEq, exists_eq_left', true_and, List.length_cons, List.length_nil]
  have g3 : ∀ x, Arr .u64 (upd (upd h n x) (n + 1) (some (Blk.row (Cont.l [AVal.int IntKind.u64 (wd b 0 : Nat), AVal.int IntKind.u64 (wd b 1 : Nat), AVal.int IntKind.u64 (wd b 2 : Nat), AVal.int IntKind.u64 (wd b 3 : Nat)]) 25))) (n + 1) 4 (fun j => (wd b j : Nat)) := fun x => arr_W (upd_same _ _ _)
  refine opv_callf (hf.new).new (f44 a _ _) fun x h1 n1 hn1 hf1 ⟨bx, ix, ox⟩ => ?_
  have g3 := (g3 _).keep (ox _ (by omega))
  simp only [core1, fgr, execOp, opd, putT, put, nth, forgetL, Int.reduceNeg]
  rw [opv_rd (g3.all ti25 rfl rfl), range4]
  simp only [core1, hkr, execOp, opd, opds, putT, put, nth, doCall, callV_func, List.nil_append, List.append_nil, Int.reduceNeg]
  refine opv_callf hf1 (f44 b _ _) fun y h2 n2 hn2 hf2 ⟨by_, iy, oy⟩ => ?_
  obtain ⟨id, hid, _, hnx⟩ := (bx.old oy hn2).nums
  obtain ⟨id2, hid2, _, hny⟩ := by_.nums
  have o2 : Old h h2 n := fun j hj => by rw [oy j (by omega), ox j (by omega)]; simp (disch := omega) only [upd_ne]
  simp only [core1, fgr, execOp, opd, ofValue, putT, put, nth, forgetL, Int.reduceNeg]
  refine loop48 _ _ a b id id2 n2 x y h2 hnx hny ?_ ?_ 256 _ _ _ _ _ _ _ (Nat.le_refl _) (by rw [← p256, Nat.div_eq_of_lt ha, Nat.div_eq_of_lt hb])
  · intro e x0 x1 x2 x3 x5 x6 x7 x13 x24 x33
    simp only [core1, fgr, execOp, opd, ofValue, putT, put, nth, forgetL, true_and]
    exact ⟨by unfold cmpV; rw [if_pos e], o2⟩
  · intro e x0 x1 x2 x3 x5 x6 x7 x13 x24 x33
    simp only [core1, nth, true_and]
    exact o2
theorem bit_not {a j : Nat} (ha : a < b256) (hj : j < 256) : bit (b256 - 1 - a) j = 1 - bit a j := by
  have h1 : (b256 - 1 - a).testBit j = !a.testBit j := by
    rw [p256, show 2 ^ 256 - 1 - a = 2 ^ 256 - (a + 1) by omega, Nat.testBit_two_pow_sub_succ (by rw [← p256]; exact ha), decide_eq_true hj, Bool.true_and]
  rw [Nat.testBit_eq_decide_div_mod_eq, Nat.testBit_eq_decide_div_mod_eq] at h1
  unfold bit
  have b1 : (b256 - 1 - a) / 2 ^ j % 2 < 2 := Nat.mod_lt _ (by decide)
  have b2 : a / 2 ^ j % 2 < 2 := Nat.mod_lt _ (by decide)
  generalize (b256 - 1 - a) / 2 ^ j % 2 = p at *
  generalize a / 2 ^ j % 2 = q at *
  by_cases e : q = 1
  · rw [decide_eq_true e] at h1
    have := of_decide_eq_false h1
    omega
  · rw [decide_eq_false e] at h1
    have := of_decide_eq_true h1
    omega
theorem loop49 (Q : Post0) (ks : List Kf) (a id n : Nat) (v y2 : AVal) (ha : a < b256) (h0 : Hp)
    (hq : ∀ (h : Hp) (x0 x1 x4 x8 : AVal), Nums .i64 h v id 0 256 256 (bit (b256 - 1 - a)) → (∀ j, j ≠ id → h j = h0 j) → Kont env 49 none Q ks (.exit 0) (x0 :: x1 :: y2 :: v :: x4 :: AVal.junk :: AVal.junk :: AVal.junk :: x8 :: AVal.junk :: AVal.junk :: AVal.junk :: AVal.junk :: AVal.junk :: AVal.junk :: AVal.junk :: AVal.junk :: AVal.junk :: AVal.junk :: AVal.junk :: AVal.junk :: []) h n) :
    ∀ (k i : Nat) (h : Hp) (x0 x1 x8 : AVal), i + k = 256 → Nums .i64 h v id 0 256 256 (fun j => if j < i then bit (b256 - 1 - a) j else bit a j) → (∀ j, j ≠ id → h j = h0 j) →
    Run env 49 none Q (.loop lp49_0) ks (x0 :: x1 :: y2 :: v :: .int .i64 (i : Nat) :: AVal.junk :: AVal.junk :: AVal.junk :: x8 :: AVal.junk :: AVal.junk :: AVal.junk :: AVal.junk :: AVal.junk :: AVal.junk :: AVal.junk :: AVal.junk :: AVal.junk :: AVal.junk :: AVal.junk :: AVal.junk :: []) h n := by
  intro k
  induction k with
  | zero =>
    intro i h x0 x1 x8 hi hv hk
    have : i = 256 := by omega
    subst this
    have hc : ¬ ((256 : Nat) : Int) < 256 := by decide
    rw [run_loop]
    simp only [lp49_0, loopsOf, Try.f49, Option.getD_some, core1, fgr, execOp, opd, ofValue, putT, put, nth, forgetL, bor, binInt, shiftB, intOp, List.nil_append, List.append_nil, Int.cast_ofNat_Int, Int.reduceLT, decide_true, decide_false, List.getD_cons_zero]
    exact hq h _ _ _ _ (hv.ext fun j hj => if_pos hj) hk
  | succ k ih =>
    intro i h x0 x1 x8 hi hv hk
    have h4 : i < 256 := by omega
    have hc : ((i : Nat) : Int) < 256 := by omega
    have hw : IntKind.i64.wrap (((i : Nat) : Int) + 1) = ((i + 1 : Nat) : Int) := by rw [w64 (by omega) (by omega)]; omega
    have hbn := bit_not ha h4
    have hw2 : IntKind.i64.wrap (1 - bit a i) = bit (b256 - 1 - a) i := by
      rw [hbn]
      rcases bit_lt a i with e | e <;> rw [e] <;> decide
    have e0 : (if i < i then bit (b256 - 1 - a) i else bit a i) = bit a i := if_neg (Nat.lt_irrefl i)
    rw [run_loop]
    simp only [lp49_0, loopsOf, Try.f49, Option.getD_some, core1, fgr, execOp, opd, ofValue, putT, put, nth, forgetL, bor, binInt, shiftB, intOp, List.nil_append, List.append_nil, decide_true, List.getD_cons_zero, hc]
    rw [opv_rd (hv.idx0 t78 s3 rfl h4)]
    simp only [core1, execOp, opd, putT, put, nth]
    rw [opv_rd (hv.load0 ti3 rfl h4)]
    simp only [core1, execOp, opd, ofValue, putT, put, nth, bor, binInt, shiftB, intOp, wrapI, decide_true, e0, hw2]
    rw [opv_rd (hv.idx0 t78 s3 rfl h4)]
    simp only [core1, execOp, opd, putT, put, nth]
    refine hv.store0 ti3 rfl h4 fun b hb => ?_
    simp only [core1, fgr, execOp, opd, ofValue, putT, put, nth, forgetL, bor, binInt, shiftB, intOp, wrapI, decide_true, hw]
    refine ih (i + 1) _ _ _ _ (by omega) (hb.ext fun j hj => ?_) (fun j hj => by rw [upd_ne _ _ hj]; exact hk j hj)
    by_cases e : j = i
    · subst e
      simp only [if_pos (Nat.lt_succ_self j), ↓reduceIte]
    · by_cases e2 : j < i
      · simp only [if_neg e, if_pos e2, if_pos (show j < i + 1 by omega)]
      · simp only [if_neg e, if_neg e2, if_neg (show ¬ j < i + 1 by omega)]
theorem f49 (a : Nat) (h : Hp) (n : Nat) (ha : a < b256) (hf : Free h n) : Wp (callI env (evalW env) 49 [W a]) h n fun v' h' n' => v' = W (b256 - 1 - a) ∧ Old h h' n := by
  refine wp_callI ff49 fi49 ?_
  simp (disch := omega) only [fu49, Try.f49, Option.getD_some, List.replicate, core1, tyr, fgr, hkr, execOp, opd, opds, putT, put, nth, forgetL, doCall, callV_func, zeroOf, readCells, cellsOf, aggB, cel, alloc, doAlloc, newRow, ended, resultOf, oneOrTup, rowK, List.cons_append, List.nil_append, List.append_nil, List.length_cons, List.length_nil, Nat.reduceAdd, Nat.reduceSub, true_and, Nat.zero_add, memr, List.take_succ_cons, List.take_zero, List.drop_zero, Nat.ble, Cont.size, Cont.sub, upd_same, upd_ne, Option.some.injEq, exists_eq_left', true_and, List.length_cons, List.length_nil, W]
  refine opv_callf (hf.new).new (f44 a _ _) fun x h1 n1 hn1 hf1 ⟨bx, ix, ox⟩ => ?_
  obtain ⟨id, hid, hio, hnx⟩ := bx.nums
  have hin := ix id hio
  have h4 : Arr .u64 h1 (n + 1) 4 (fun _ => 0) := arr_0 ((ox _ (by omega)).trans (upd_same _ _ _))
  simp only [core1, fgr, execOp, opd, ofValue, putT, put, nth, forgetL]
  refine loop49 _ _ a id n1 x _ ha _ ?_ 256 0 h1 _ _ _ rfl (hnx.ext fun j hj => by rw [if_neg (Nat.not_lt_zero j)]) (fun _ _ => rfl)
  intro h2 x0 x1 x4 x8 hv hk
  simp only [core1, hkr, execOp, opd, opds, putT, put, nth, doCall, callV_func, List.nil_append, List.append_nil]
  refine opv_call (f65 x (b256 - 1 - a) id 0 256 _ (fun j hj => by rw [Nat.zero_add]) h2 n1 hid hv) fun v4 h3 n4 hn4 ⟨e4, o4⟩ => ?_
  subst e4
  have k4 : Arr .u64 h3 (n + 1) 4 (fun _ => 0) := h4.keep ((o4 _ (by omega)).trans (hk _ (by omega)))
  have hmod : (b256 - 1 - a) % b256 = b256 - 1 - a := Nat.mod_eq_of_lt (by unfold b256; omega)
  rw [hmod]
  simp only [core1, execOp, opd, putT, put, nth, W]
  refine opv_all4 k4 ti25 rfl fun bb hbb => ?_
  simp only [core1, fgr, putT, nth, forgetL, true_and, wp_pure, wp_rd (hbb.all ti25 rfl rfl), range4, pick4]
  intro j hj
  rw [upd_ne _ _ (by omega), o4 j (by omega), hk j (by omega), ox j (by omega)]
  simp (disch := omega) only [upd_ne]
/- Products: the document's. -/
theorem loop42b (Q : Post0) (ks : List Kf) (b i iy ip n : Nat) (x y s p y4 y5 : AVal) (hi : i < 256) (d1 : iy ≠ ip) (h0 : Hp)
    (hq : ∀ (h : Hp) (x0 x1 x2 x3 x11 x18 x25 x28 : AVal), Nums .i64 h p ip 0 512 512 (fun j => if i ≤ j ∧ j < i + 256 then bit b (j - i) else 0) → (∀ j, j ≠ ip → h j = h0 j) → Kont env 42 none Q ks (.exit 2) (x0 :: x1 :: x2 :: x3 :: y4 :: y5 :: x :: y :: s :: .int .i64 (i : Nat) :: p :: x11 :: AVal.junk :: AVal.junk :: AVal.junk :: AVal.junk :: AVal.junk :: AVal.junk :: x18 :: AVal.junk :: AVal.junk :: AVal.junk :: AVal.junk :: AVal.junk :: AVal.junk :: x25 :: AVal.junk :: AVal.junk :: x28 :: AVal.junk :: AVal.junk :: AVal.junk :: AVal.junk :: AVal.junk :: AVal.junk :: AVal.junk :: AVal.junk :: AVal.junk :: AVal.junk :: AVal.junk :: AVal.junk :: AVal.junk :: AVal.junk :: AVal.junk :: AVal.junk :: AVal.junk :: AVal.junk :: AVal.junk :: AVal.junk :: AVal.junk :: AVal.junk :: AVal.junk :: []) h n) :
    ∀ (k' k : Nat) (h : Hp) (x0 x1 x2 x3 x18 x25 x28 : AVal), k + k' = 256 → Nums .i64 h y iy 0 256 256 (bit b) → Nums .i64 h p ip 0 512 512 (fun j => if i ≤ j ∧ j < i + k then bit b (j - i) else 0) → (∀ j, j ≠ ip → h j = h0 j) →
    Run env 42 none Q (.loop lp42_1) ks (x0 :: x1 :: x2 :: x3 :: y4 :: y5 :: x :: y :: s :: .int .i64 (i : Nat) :: p :: .int .i64 (k : Nat) :: AVal.junk :: AVal.junk :: AVal.junk :: AVal.junk :: AVal.junk :: AVal.junk :: x18 :: AVal.junk :: AVal.junk :: AVal.junk :: AVal.junk :: AVal.junk :: AVal.junk :: x25 :: AVal.junk :: AVal.junk :: x28 :: AVal.junk :: AVal.junk :: AVal.junk :: AVal.junk :: AVal.junk :: AVal.junk :: AVal.junk :: AVal.junk :: AVal.junk :: AVal.junk :: AVal.junk :: AVal.junk :: AVal.junk :: AVal.junk :: AVal.junk :: AVal.junk :: AVal.junk :: AVal.junk :: AVal.junk :: AVal.junk :: AVal.junk :: AVal.junk :: AVal.junk :: []) h n := by
  intro k'
  induction k' with
  | zero =>
    intro k h x0 x1 x2 x3 x18 x25 x28 hk hy hp hh
    have : k = 256 := by omega
    subst this
    have hc : ¬ ((256 : Nat) : Int) < 256 := by decide
    rw [run_loop]
    simp only [lp42_1, loopsOf, Try.f42, Option.getD_some, core1, fgr, execOp, opd, ofValue, putT, put, nth, forgetL, bor, binInt, shiftB, intOp, List.nil_append, List.append_nil, Int.cast_ofNat_Int, Int.reduceLT, decide_true, decide_false, List.getD_cons_zero, List.getD_cons_succ]
    exact hq h _ _ _ _ _ _ _ _ hp hh
  | succ k' ih =>
    intro k h x0 x1 x2 x3 x18 x25 x28 hk hy hp hh
    have h4 : k < 256 := by omega
    have h5 : i + k < 512 := by omega
    have hc : ((k : Nat) : Int) < 256 := by omega
    have hw : IntKind.i64.wrap (((k : Nat) : Int) + 1) = ((k + 1 : Nat) : Int) := by rw [w64 (by omega) (by omega)]; omega
    have hw2 : IntKind.i64.wrap (((i : Nat) : Int) + ((k : Nat) : Int)) = ((i + k : Nat) : Int) := by rw [w64 (by omega) (by omega)]; omega
    rw [run_loop]
    simp only [lp42_1, loopsOf, Try.f42, Option.getD_some, core1, fgr, execOp, opd, ofValue, putT, put, nth, forgetL, bor, binInt, shiftB, intOp, wrapI, List.nil_append, List.append_nil, decide_true, List.getD_cons_zero, List.getD_cons_succ, hc, hw2]
    rw [opv_rd (hy.idx0 t78 s3 rfl h4)]
    simp only [core1, execOp, opd, putT, put, nth]
    rw [opv_rd (hy.load0 ti3 rfl h4)]
    simp only [core1, execOp, opd, putT, put, nth]
    rw [opv_rd (hp.idx0 t78 s3 rfl h5)]
    simp only [core1, execOp, opd, putT, put, nth]
    refine hp.store0 ti3 rfl h5 fun bb hb => ?_
    simp only [core1, fgr, execOp, opd, ofValue, putT, put, nth, forgetL, bor, binInt, shiftB, intOp, wrapI, decide_true, hw]
    refine ih (k + 1) _ _ _ _ _ _ _ _ (by omega) (hy.upd d1) (hb.ext fun j hj => ?_) (fun j hj => by rw [upd_ne _ _ hj]; exact hh j hj)
    by_cases e : j = i + k
    · subst e
      simp only [↓reduceIte]
      rw [if_pos (by omega), Nat.add_sub_cancel_left]
    · simp only [if_neg e]
      by_cases e2 : i ≤ j ∧ j < i + k
      · rw [if_pos e2, if_pos (by omega)]
      · rw [if_neg e2, if_neg (by omega)]
theorem part_bits {b i : Nat} (hb : b < b256) (j : Nat) : (if i ≤ j ∧ j < i + 256 then bit b (j - i) else 0) = bit (b * 2 ^ i) j := by
  rw [bit_left]
  by_cases h1 : j < i
  · rw [if_pos h1, if_neg (by omega)]
  · rw [if_neg h1]
    by_cases h2 : j < i + 256
    · rw [if_pos (by omega)]
    · rw [if_neg (by omega)]
      unfold bit
      rw [Nat.div_eq_of_lt (Nat.lt_of_lt_of_le hb (show b256 ≤ 2 ^ (j - i) from Nat.le_trans (show b256 ≤ 2 ^ 256 by decide) (Nat.pow_le_pow_right (by decide) (by omega))))]; rfl
theorem loop42a (Q : Post0) (ks : List Kf) (a b N : Nat) (x y y4 y5 : AVal) (hb : b < b256) (h0 : Hp)
    (hq : ∀ (h : Hp) (n : Nat) (s : AVal) (x0 x1 x2 x3 x6 x7 x9 x10 x11 x18 x25 x28 : AVal), Bt h n s (a % 2 ^ 256 * b) 512 → (∀ j, ownId s = some j → N ≤ j) → N ≤ n → Free h n → Old h0 h N → Kont env 42 none Q ks (.exit 0) (x0 :: x1 :: x2 :: x3 :: y4 :: y5 :: x6 :: x7 :: s :: x9 :: x10 :: x11 :: AVal.junk :: AVal.junk :: AVal.junk :: AVal.junk :: AVal.junk :: AVal.junk :: x18 :: AVal.junk :: AVal.junk :: AVal.junk :: AVal.junk :: AVal.junk :: AVal.junk :: x25 :: AVal.junk :: AVal.junk :: x28 :: AVal.junk :: AVal.junk :: AVal.junk :: AVal.junk :: AVal.junk :: AVal.junk :: AVal.junk :: AVal.junk :: AVal.junk :: AVal.junk :: AVal.junk :: AVal.junk :: AVal.junk :: AVal.junk :: AVal.junk :: AVal.junk :: AVal.junk :: AVal.junk :: AVal.junk :: AVal.junk :: AVal.junk :: AVal.junk :: AVal.junk :: []) h n) :
    ∀ (k i : Nat) (h : Hp) (n : Nat) (s : AVal) (x0 x1 x2 x3 x10 x11 x18 x25 x28 : AVal), i + k = 256 → Bt h n x a 256 → Bt h n y b 256 → Bt h n s (a % 2 ^ i * b) 512 → (∀ j, ownId s = some j → N ≤ j) → N ≤ n → Free h n → Old h0 h N →
    Run env 42 none Q (.loop lp42_0) ks (x0 :: x1 :: x2 :: x3 :: y4 :: y5 :: x :: y :: s :: .int .i64 (i : Nat) :: x10 :: x11 :: AVal.junk :: AVal.junk :: AVal.junk :: AVal.junk :: AVal.junk :: AVal.junk :: x18 :: AVal.junk :: AVal.junk :: AVal.junk :: AVal.junk :: AVal.junk :: AVal.junk :: x25 :: AVal.junk :: AVal.junk :: x28 :: AVal.junk :: AVal.junk :: AVal.junk :: AVal.junk :: AVal.junk :: AVal.junk :: AVal.junk :: AVal.junk :: AVal.junk :: AVal.junk :: AVal.junk :: AVal.junk :: AVal.junk :: AVal.junk :: AVal.junk :: AVal.junk :: AVal.junk :: AVal.junk :: AVal.junk :: AVal.junk :: AVal.junk :: AVal.junk :: AVal.junk :: []) h n := by
  intro k
  induction k with
  | zero =>
    intro i h n s x0 x1 x2 x3 x10 x11 x18 x25 x28 hi hx hy hs hid hN hf ho
    have : i = 256 := by omega
    subst this
    have hc : ¬ ((256 : Nat) : Int) < 256 := by decide
    rw [run_loop]
    simp only [lp42_0, loopsOf, Try.f42, Option.getD_some, core1, fgr, execOp, opd, ofValue, putT, put, nth, forgetL, bor, binInt, shiftB, intOp, List.nil_append, List.append_nil, Int.cast_ofNat_Int, Int.reduceLT, decide_true, decide_false, List.getD_cons_zero]
    exact hq h n s _ _ _ _ _ _ _ _ _ _ _ _ hs hid hN hf ho
  | succ k ih =>
    intro i h n s x0 x1 x2 x3 x10 x11 x18 x25 x28 hi hx hy hs hid hN hf ho
    have h4 : i < 256 := by omega
    have hc : ((i : Nat) : Int) < 256 := by omega
    have hw : IntKind.i64.wrap (((i : Nat) : Int) + 1) = ((i + 1 : Nat) : Int) := by rw [w64 (by omega) (by omega)]; omega
    obtain ⟨ix, bx, _, nx⟩ := hx.nums
    have hms := mod_succ_bit a i
    rw [run_loop]
    simp only [lp42_0, loopsOf, Try.f42, Option.getD_some, core1, fgr, execOp, opd, ofValue, putT, put, nth, forgetL, bor, binInt, shiftB, intOp, List.nil_append, List.append_nil, decide_true, List.getD_cons_zero, hc]
    rw [opv_rd (nx.idx0 t78 s3 rfl h4)]
    simp only [core1, execOp, opd, putT, put, nth]
    rw [opv_rd (nx.load0 ti3 rfl h4)]
    rcases bit_lt a i with hbit | hbit
    · have hb' : a / 2 ^ i % 2 = 0 := by unfold bit at hbit; omega
      simp only [core1, fgr, execOp, opd, ofValue, putT, put, nth, forgetL, bor, binInt, shiftB, intOp, wrapI, decide_true, beq_self_eq_true, hbit, hw]
      refine ih (i + 1) h n s _ _ _ _ _ _ _ _ _ (by omega) hx hy (by rw [hms, hb', Nat.mul_zero, Nat.add_zero]; exact hs) hid hN hf ho
    · have hb' : a / 2 ^ i % 2 = 1 := by unfold bit at hbit; omega
      obtain ⟨iy, byy, _, ny⟩ := hy.nums
      simp only [core1, fgr, execOp, opd, ofValue, putT, put, nth, forgetL, bor, binInt, shiftB, intOp, int_beq, Int.reduceEq, decide_true, decide_false, hbit]
      refine nums_make (m := 512) rfl t78 ti3 rfl rfl (by decide) (by decide) fun hp => ?_
      simp only [core1, fgr, execOp, opd, ofValue, putT, put, nth, forgetL]
      refine loop42b _ _ b i iy n (n + 1) x y s _ _ _ h4 (by omega) _ ?_ 256 0 _ _ _ _ _ _ _ _ rfl (ny.upd (by omega)) (hp.ext fun j hj => by rw [if_neg (by omega)]) (fun _ _ => rfl)
      intro h1 x0 x1 x2 x3 x11 x18 x25 x28 hp1 hk1
      have o1 : Old h h1 n := fun j hj => by rw [hk1 j (by omega), upd_ne _ _ (by omega)]
      have f1 : Free h1 (n + 1) := fun j hj => by rw [hk1 j (by omega), upd_ne _ _ (by omega)]; exact hf j (by omega)
      have bp : Bt h1 (n + 1) (.sl n 0 512 (some 512) 1) (b * 2 ^ i) 512 := by
        obtain ⟨_, _, e, he⟩ := hp1.ext fun j hj => part_bits hb j
        exact ⟨n, by omega, rfl, e, he⟩
      simp only [core1, hkr, execOp, opd, opds, putT, put, nth, doCall, callV_func, List.nil_append, List.append_nil]
      refine opv_callf f1 (f64 s _ (a % 2 ^ i * b) (b * 2 ^ i) 512 (by decide) h1 (n + 1) (hs.old o1 (by omega)) bp) fun v2 h2 n2 hn2 hf2 ⟨o, e2, bo, io, oo⟩ => ?_
      subst e2
      have o2 : Old h h2 n := o1.trans oo (by omega)
      simp only [core1, fgr, execOp, opd, ofValue, putT, put, nth, forgetL, bor, binInt, shiftB, intOp, wrapI, extract, getO, List.getElem?_cons_succ, List.getElem?_cons_zero, decide_true, hw]
      refine ih (i + 1) h2 n2 o _ _ _ _ _ _ _ _ _ (by omega) (hx.old o2 (by omega)) (hy.old o2 (by omega)) ?_ (fun j hj => by have := io j hj; omega) (by omega) hf2 (ho.trans o2 hN)
      rw [hms, hb', Nat.mul_one, Nat.add_mul, Nat.mul_comm (2 ^ i)]
      exact bo
theorem sl_slice {E : Env} {h : Hp} {n id m l hi cap : Nat} {t e : TypeId} {lo' hi' : Option AVal} (ht : und E t = M.pure (.slice e)) (he : sizeOf E e = M.pure 1)
    (hl : Rd (bound lo' 0 hi) h n [] l) (hh : Rd (bound hi' m cap) h n [] hi) : Rd (slice E t (.sl id 0 m (some cap) 1) lo' hi' none) h n [] (.sl id (0 + l * 1) (hi - l) (some (cap - l)) 1) := by
  simp only [slice, ht, he, bind_pure, sameSz]
  exact Rd.bind (i2 := []) hh (Rd.bind (i2 := []) hl (Rd.pure _))
theorem bit_hi (S j : Nat) : bit S (256 + j) = bit (S / 2 ^ 256) j := by
  unfold bit
  rw [Nat.pow_add, Nat.div_div_eq_div_mul]
set_option maxHeartbeats 1000000 in
theorem f42 (a b : Nat) (h : Hp) (n : Nat) (ha : a < b256) (hb : b < b256) (hf : Free h n) : Wp (callI env (evalW env) 42 [W a, W b]) h n fun v' h' n' => v' = .tup [W (a * b % b256), W (a * b / b256)] ∧ Old h h' n := by
  refine wp_callI ff42 fi42 ?_
  have hw : ∀ c, W c = .agg [.int .u64 (wd c 0 : Nat), .int .u64 (wd c 1 : Nat), .int .u64 (wd c 2 : Nat), .int .u64 (wd c 3 : Nat)] := fun _ => rfl
  rw [hw a, hw b]
  simp (disch := omega) only [fu42, Try.f42, Option.getD_some, List.replicate, core1, tyr, fgr, hkr, execOp, opd, opds, putT, put, nth, forgetL, doCall, callV_func, zeroOf, readCells, cellsOf, aggB, cel, alloc, doAlloc, newRow, ended, resultOf, oneOrTup, rowK, List.cons_append, List.nil_append, List.append_nil, List.length_cons, List.length_nil, Nat.reduceAdd, Nat.reduceSub, true_and, Nat.zero_add, memr, List.take_succ_cons, List.take_zero, List.drop_zero, Nat.ble, Cont.size, Cont.sub, upd_same, upd_ne, Option.some.injEq, exists_eq_left', true_and, List.length_cons, List.length_nil]
  obtain ⟨G, hG⟩ : ∃ G, G = upd (upd (upd (upd h n (some (Blk.row (Cont.l [AVal.int IntKind.u64 (wd a 0 : Nat), AVal.int IntKind.u64 (wd a 1 : Nat), AVal.int IntKind.u64 (wd a 2 : Nat), AVal.int IntKind.u64 (wd a 3 : Nat)]) 25))) (n + 1) (some (Blk.row (Cont.l [AVal.int IntKind.u64 (wd b 0 : Nat), AVal.int IntKind.u64 (wd b 1 : Nat), AVal.int IntKind.u64 (wd b 2 : Nat), AVal.int IntKind.u64 (wd b 3 : Nat)]) 25))) (n + 1 + 1) (some (Blk.row (Cont.l [AVal.int IntKind.u64 0, AVal.int IntKind.u64 0, AVal.int IntKind.u64 0, AVal.int IntKind.u64 0]) 25))) (n + 1 + 1 + 1) (some (Blk.row (Cont.l [AVal.int IntKind.u64 0, AVal.int IntKind.u64 0, AVal.int IntKind.u64 0, AVal.int IntKind.u64 0]) 25)) := ⟨_, rfl⟩
  rw [← hG]
  have g3 : Arr .u64 G (n + 1) 4 (fun j => (wd b j : Nat)) := arr_W (by rw [hG, upd_ne _ _ (by omega), upd_ne _ _ (by omega)]; exact upd_same _ _ _)
  have g4 : Arr .u64 G (n + 1 + 1) 4 (fun _ => 0) := arr_0 (by rw [hG, upd_ne _ _ (by omega)]; exact upd_same _ _ _)
  have g5 : Arr .u64 G (n + 1 + 1 + 1) 4 (fun _ => 0) := arr_0 (by rw [hG]; exact upd_same _ _ _)
  have fG : Free G (n + 1 + 1 + 1 + 1) := by rw [hG]; exact ((hf.new).new).new.new
  have oG : Old h G n := fun j hj => by rw [hG]; simp (disch := omega) only [upd_ne]
  refine opv_callf fG (f44 a _ _) fun x h1 n1 hn1 hf1 ⟨bx, ix, ox⟩ => ?_
  have g3 := g3.keep (ox _ (by omega))
  simp only [core1, fgr, execOp, opd, putT, put, nth, forgetL]
  rw [opv_rd (g3.all ti25 rfl rfl), range4]
  simp only [core1, hkr, execOp, opd, opds, putT, put, nth, doCall, callV_func, List.nil_append, List.append_nil]
  refine opv_callf hf1 (f44 b _ _) fun y h2 n2 hn2 hf2 ⟨by_, iy, oy⟩ => ?_
  simp only [core1, fgr, execOp, opd, ofValue, putT, put, nth, forgetL]
  refine nums_make (m := 512) rfl t78 ti3 rfl rfl (by decide) (by decide) fun hs => ?_
  simp only [core1, fgr, execOp, opd, ofValue, putT, put, nth, forgetL]
  have oN : Old h2 (upd h2 n2 (some (Blk.row (Cont.l (cellsF .i64 512 fun _ => 0)) 3))) n2 := (Old.refl _ _).upd (Nat.le_refl _)
  refine loop42a _ _ a b (n + 1 + 1 + 1 + 1) x y _ _ hb G ?_ 256 0 _ (n2 + 1) _ _ _ _ _ _ _ _ _ _ rfl (((bx.old oy hn2).old oN (Nat.le_refl _)).old (Old.refl _ _) (by omega)) ((by_.old oN (Nat.le_refl _)).old (Old.refl _ _) (by omega)) ?_ (fun j hj => by injection hj with hj; omega) (by omega) hf2.new (fun j hj => by rw [upd_ne _ _ (by omega), oy j (by omega), ox j (by omega)])
  · intro h3 n3 s x0 x1 x2 x3 x6 x7 x9 x10 x11 x18 x25 x28 bs is_ hN hf3 ho3
    have hp : (2 : Nat) ^ 256 = b256 := p256.symm
    rw [hp, Nat.mod_eq_of_lt ha] at bs
    obtain ⟨id, hid, es, e, he⟩ := bs
    subst es
    have hge := is_ id rfl
    have g4 := g4.keep (ho3 _ (by omega))
    have g5 := g5.keep (ho3 _ (by omega))
    simp only [core1]
    refine run_draw.2 ⟨rfl, ?_⟩
    simp only [fe_cons, fev_pure, execOp, opd, opt, ofValue, putT, put, nth, Nat.zero_add]
    rw [fev_rd (sl_slice (l := 0) (hi := 256) t78 s3 (bound_none 0 256 (by omega)) (bound_lit (z := 256) 256 512 512 rfl (by omega)))]
    simp only [fe_cons, hkr, execOp, opd, opds, putT, put, nth, doCall, callV_func, List.nil_append, List.append_nil, Nat.reduceAdd, Nat.reduceSub, Nat.add_zero, Nat.zero_mul]
    refine fev_any hf3 (f65 _ (a * b) id 0 512 (bit (a * b)) (fun j hj => by rw [Nat.zero_add]) h3 n3 hid ⟨⟨_, rfl⟩, by omega, e, he⟩) fun v4 h4 n4 r4 w4 hn4 hf4 ⟨e4, o4⟩ => ?_
    subst e4
    simp only [fe_cons, fev_pure, execOp, opd, opt, ofValue, putT, put, nth, Nat.reduceAdd, W]
    rw [fev_rd (sl_slice (l := 256) (hi := 512) t78 s3 (bound_lit (z := 256) 256 0 512 rfl (by omega)) (bound_none 512 512 (by omega)))]
    simp only [fe_cons, hkr, execOp, opd, opds, putT, put, nth, doCall, callV_func, List.nil_append, List.append_nil, Nat.reduceAdd, Nat.reduceSub, Nat.zero_add]
    refine fev_any hf4 (f65 _ (a * b / 2 ^ 256) id 256 512 (bit (a * b)) (fun j hj => bit_hi _ _) h4 n4 (by omega) ⟨⟨_, rfl⟩, by omega, e, (o4 id hid).trans he⟩) fun v5 h5 n5 r5 w5 hn5 hf5 ⟨e5, o5⟩ => ?_
    subst e5
    simp only [fe_cons, execOp, opd, putT, put, nth, Nat.reduceAdd, W]
    have g4 := g4.keep ((o5 _ (by omega)).trans (o4 _ (by omega)))
    have g5 := g5.keep ((o5 _ (by omega)).trans (o4 _ (by omega)))
    refine fev_all4 g4 ti25 rfl fun b6 k4 => ?_
    simp only [fe_cons, execOp, opd, putT, nth, Nat.reduceAdd]
    refine fev_all4 (g5.upd (by omega)) ti25 rfl fun b7 k5 => ?_
    simp only [fe_nil, core1, fgr, putT, nth, forgetL, Nat.reduceAdd, true_and]
    refine ⟨(by (try simp (disch := omega) only [fine, List.all_cons, List.all_nil, clash_pl, clash_pr, Bool.not_false, Bool.true_or, Bool.and_true, Bool.true_and, clash_ww]); repeat' (first | rfl | exact (Bool.or_eq_true _ _).mpr (.inr rfl) | refine (Bool.and_eq_true _ _).mpr ⟨?_, ?_⟩)), ?_⟩
    simp only [wp_pure, wp_rd ((k4.upd (i := n + 1 + 1 + 1) (b := some b7) (by omega)).all ti25 rfl rfl), wp_rd (k5.all ti25 rfl rfl), range4, pick4]
    have hq : a * b / 2 ^ 256 % b256 = a * b / b256 := by
      rw [hp]
      exact Nat.mod_eq_of_lt (Nat.div_lt_of_lt_mul (Nat.mul_lt_mul_of_lt_of_le ha (Nat.le_of_lt hb) (by decide)))
    rw [hq]
    refine ⟨by trivial, fun j hj => ?_⟩
    rw [upd_ne _ _ (by omega), upd_ne _ _ (by omega), o5 j (by omega), o4 j (by omega), ho3 j (by omega)]
    exact oG j hj
  · rw [Nat.pow_zero, Nat.mod_one, Nat.zero_mul]
    obtain ⟨_, _, e, he⟩ := hs.ext (f := bit 0) fun j hj => by unfold bit; simp
    exact ⟨n2, by omega, rfl, e, he⟩
/- A number scaled, bit by bit: the document's. -/
theorem len_256 {a L : Nat} (hl : isLen a L) (hL : L ≤ 256) : L = 256 ↔ b256 ≤ 2 * a := by
  obtain ⟨h1, h2⟩ := hl
  have e : b256 = 2 * 2 ^ 255 := by decide
  constructor
  · intro q
    subst q
    rcases h2 with h2 | h2
    · omega
    · rw [e]; omega
  · intro q
    rcases Nat.lt_or_ge L 256 with r | r
    · have : 2 ^ L ≤ 2 ^ 255 := Nat.pow_le_pow_right (by decide) (by omega)
      omega
    · omega
set_option maxHeartbeats 1000000 in
theorem loop11 (Q : Post0) (ks : List Kf) (N P of ib i13 tot : Nat) (v y7 y8 : AVal) (g : Nat → Int) (hg : ∀ j, j < 512 → g j = bit P j) (hof : 1 ≤ of ∧ of ≤ 1099511627776) (hP : P < 2 ^ 512) (d1 : ib ≠ i13) (hN : N ≤ i13) (h0 : Hp)
    (hq : ∀ (h : Hp) (n : Nat) (x0 x1 x3 x4 x9 x10 x11 x12 x15 x16 x38 x57 x78 x94 x97 : AVal), Arr .u64 h i13 4 (fun j => (wd (P / of % b256) j : Nat)) → i13 < n → Free h n → (∀ j, j < N → h j = h0 j) → Kont env 11 none Q ks (.exit 0) (x0 :: x1 :: .int .u64 (of : Nat) :: x3 :: x4 :: AVal.junk :: AVal.junk :: y7 :: y8 :: x9 :: x10 :: x11 :: x12 :: .ptr i13 0 :: .bool (decide (b256 ≤ P / of)) :: x15 :: x16 :: AVal.junk :: AVal.junk :: AVal.junk :: AVal.junk :: AVal.junk :: AVal.junk :: AVal.junk :: AVal.junk :: AVal.junk :: AVal.junk :: AVal.junk :: AVal.junk :: AVal.junk :: AVal.junk :: AVal.junk :: AVal.junk :: AVal.junk :: AVal.junk :: AVal.junk :: AVal.junk :: AVal.junk :: x38 :: AVal.junk :: AVal.junk :: AVal.junk :: AVal.junk :: AVal.junk :: AVal.junk :: AVal.junk :: AVal.junk :: AVal.junk :: AVal.junk :: AVal.junk :: AVal.junk :: AVal.junk :: AVal.junk :: AVal.junk :: AVal.junk :: AVal.junk :: AVal.junk :: x57 :: AVal.junk :: AVal.junk :: AVal.junk :: AVal.junk :: AVal.junk :: AVal.junk :: AVal.junk :: AVal.junk :: AVal.junk :: AVal.junk :: AVal.junk :: AVal.junk :: AVal.junk :: AVal.junk :: AVal.junk :: AVal.junk :: AVal.junk :: AVal.junk :: AVal.junk :: AVal.junk :: x78 :: AVal.junk :: AVal.junk :: AVal.junk :: AVal.junk :: AVal.junk :: AVal.junk :: AVal.junk :: AVal.junk :: AVal.junk :: AVal.junk :: AVal.junk :: AVal.junk :: AVal.junk :: AVal.junk :: AVal.junk :: x94 :: AVal.junk :: AVal.junk :: x97 :: AVal.junk :: AVal.junk :: []) h n) :
    ∀ (m : Nat) (h : Hp) (n : Nat) (ov : Bool) (r : Nat) (x0 x1 x3 x4 x9 x10 x11 x38 x57 x78 x94 x97 : AVal), m ≤ 512 → ov = decide (b256 ≤ P / 2 ^ m / of) → r = P / 2 ^ m % of → Nums .i64 h v ib 0 512 512 g → Arr .u64 h i13 4 (fun j => (wd (P / 2 ^ m / of % b256) j : Nat)) → i13 < n → ib < n → Free h n → (∀ j, j < N → h j = h0 j) →
    Run env 11 none Q (.loop lp11_0) ks (x0 :: x1 :: .int .u64 (of : Nat) :: x3 :: x4 :: AVal.junk :: AVal.junk :: y7 :: y8 :: x9 :: x10 :: x11 :: v :: .ptr i13 0 :: .bool ov :: .int .u64 (r : Nat) :: .int .i64 (((m : Nat) : Int) - 1) :: AVal.junk :: AVal.junk :: AVal.junk :: AVal.junk :: AVal.junk :: AVal.junk :: AVal.junk :: AVal.junk :: AVal.junk :: AVal.junk :: AVal.junk :: AVal.junk :: AVal.junk :: AVal.junk :: AVal.junk :: AVal.junk :: AVal.junk :: AVal.junk :: AVal.junk :: AVal.junk :: AVal.junk :: x38 :: AVal.junk :: AVal.junk :: AVal.junk :: AVal.junk :: AVal.junk :: AVal.junk :: AVal.junk :: AVal.junk :: AVal.junk :: AVal.junk :: AVal.junk :: AVal.junk :: AVal.junk :: AVal.junk :: AVal.junk :: AVal.junk :: AVal.junk :: AVal.junk :: x57 :: AVal.junk :: AVal.junk :: AVal.junk :: AVal.junk :: AVal.junk :: AVal.junk :: AVal.junk :: AVal.junk :: AVal.junk :: AVal.junk :: AVal.junk :: AVal.junk :: AVal.junk :: AVal.junk :: AVal.junk :: AVal.junk :: AVal.junk :: AVal.junk :: AVal.junk :: AVal.junk :: x78 :: AVal.junk :: AVal.junk :: AVal.junk :: AVal.junk :: AVal.junk :: AVal.junk :: AVal.junk :: AVal.junk :: AVal.junk :: AVal.junk :: AVal.junk :: AVal.junk :: AVal.junk :: AVal.junk :: AVal.junk :: x94 :: AVal.junk :: AVal.junk :: x97 :: AVal.junk :: AVal.junk :: []) h n := by
  intro m
  induction m with
  | zero =>
    intro h n ov r x0 x1 x3 x4 x9 x10 x11 x38 x57 x78 x94 x97 hm hov hr hv ha hi hib hf hk
    have hc : ¬ (0 : Int) ≤ -1 := by decide
    rw [Nat.pow_zero, Nat.div_one] at hov ha
    subst hov
    rw [run_loop]
    simp only [lp11_0, loopsOf, Try.f11, Option.getD_some, core1, fgr, execOp, opd, ofValue, putT, put, nth, forgetL, bor, binInt, shiftB, intOp, List.append_eq, List.cons_append, List.nil_append, List.append_nil, Int.cast_ofNat_Int, Int.reduceSub, Int.reduceNeg, ge_iff_le, decide_true, decide_false, List.getD_cons_zero, hc]
    exact hq h n _ _ _ _ _ _ _ _ _ _ _ _ _ _ _ ha hi hf hk
  | succ m ih =>
    intro h n ov r x0 x1 x3 x4 x9 x10 x11 x38 x57 x78 x94 x97 hm hov hr hv ha hi hib hf hk
    have hs : ((m + 1 : Nat) : Int) - 1 = ((m : Nat) : Int) := by omega
    have hc : (0 : Int) ≤ ((m : Nat) : Int) := by omega
    have hwm : IntKind.i64.wrap (((m : Nat) : Int) - 1) = ((m : Nat) : Int) - 1 := w64 (by omega) (by omega)
    have hrl : r < of := by rw [hr]; exact Nat.mod_lt _ (by omega)
    have hbit : P / 2 ^ m % 2 < 2 := Nat.mod_lt _ (by decide)
    have eb : bit P m = ((P / 2 ^ m % 2 : Nat) : Int) := rfl
    have hA : P / 2 ^ m = 2 * (P / 2 ^ (m + 1)) + P / 2 ^ m % 2 := half_step P m
    have hA2 : P / 2 ^ (m + 1) = P / 2 ^ (m + 1) / of * of + r := by rw [hr, Nat.mul_comm]; exact (Nat.div_add_mod _ _).symm
    obtain ⟨dq, dr⟩ := div_step (b := of) (q := P / 2 ^ (m + 1) / of) (r := r) (x := P / 2 ^ m) (by omega) hrl (by rw [← hA2]; omega) (P / 2 ^ m % 2) (by rw [← hA2]; exact hA)
    have w1 : IntKind.u64.wrap (2 * ((r : Nat) : Int)) = ((2 * r : Nat) : Int) := by rw [wu64 (by omega) (by omega)]; omega
    have w2 : IntKind.u64.wrap (bit P m) = ((P / 2 ^ m % 2 : Nat) : Int) := by rw [eb]; exact wu64 (by omega) (by omega)
    have w3 : IntKind.u64.wrap (((2 * r : Nat) : Int) + ((P / 2 ^ m % 2 : Nat) : Int)) = ((2 * r + P / 2 ^ m % 2 : Nat) : Int) := by rw [wu64 (by omega) (by omega)]; omega
    have hq256 : P / 2 ^ (m + 1) / of % b256 < b256 := Nat.mod_lt _ (by decide)
    obtain ⟨q, hqd⟩ : ∃ q, q = P / 2 ^ (m + 1) / of := ⟨_, rfl⟩
    rw [← hqd] at dq hov ha hq256
    -- whether it is over
    have hov2 : ∀ L, isLen (q % b256) L → L ≤ 256 → (ov || decide (L = 256)) = decide (b256 ≤ P / 2 ^ m / of) := fun L hl hL => by
      have hl2 := len_256 hl hL
      have hge : b256 ≤ P / 2 ^ m / of ↔ b256 ≤ 2 * q := by
        rw [dq]
        have : b256 % 2 = 0 := by decide
        split <;> omega
      rw [hov]
      by_cases c1 : b256 ≤ q
      · rw [decide_eq_true c1, decide_eq_true (hge.2 (by omega))]; rfl
      · rw [decide_eq_false c1, Bool.false_or]
        rw [Nat.mod_eq_of_lt (by omega)] at hl2
        by_cases c2 : L = 256
        · rw [decide_eq_true c2, decide_eq_true (hge.2 (hl2.1 c2))]
        · rw [decide_eq_false c2, decide_eq_false (fun z => c2 (hl2.2 (hge.1 z)))]
    rw [run_loop]
    simp only [lp11_0, loopsOf, Try.f11, Option.getD_some, core1, fgr, execOp, opd, ofValue, putT, put, nth, forgetL, bor, binInt, shiftB, intOp, List.getElem?_cons_succ, List.getElem?_cons_zero, List.append_eq, List.cons_append, List.nil_append, List.append_nil, ge_iff_le, decide_true, List.getD_cons_zero, hs, hc]
    have hl1 : leftV (q % b256) 1 = 2 * q % b256 := by rw [left_one, Nat.mul_mod, Nat.mod_mod, ← Nat.mul_mod]
    cases hb : ov
    case' true =>
      have hnew : true = decide (b256 ≤ P / 2 ^ m / of) := by
        rw [hb] at hov
        have := of_decide_eq_true hov.symm
        rw [decide_eq_true]
        rw [dq]
        split <;> omega
      simp only [core1, fgr, execOp, opd, ofValue, putT, put, nth, forgetL, doPick, branch, List.getElem?_cons_succ, List.getElem?_cons_zero]
      obtain ⟨H, eH⟩ : ∃ H, H = h := ⟨_, rfl⟩
      obtain ⟨k, ek⟩ : ∃ k, k = n := ⟨_, rfl⟩
      have hnk : n ≤ k := by omega
      have fH : Free H k := by rw [eH, ek]; exact hf
      have oH : Old h H n := by rw [eH]; exact Old.refl _ _
      rw [← eH, ← ek]
    case' false =>
      simp only [core1, execOp, opd, nth]
      rw [opv_rd (ha.all ti25 rfl rfl), range4]
      simp only [core1, hkr, execOp, opd, opds, putT, put, nth, doCall, callV_func, List.getElem?_cons_succ, List.getElem?_cons_zero, List.nil_append, List.append_nil]
      refine opv_callf hf (f45 (q % b256) h n hq256 hf) fun v1 H k hnk fH ⟨⟨L, e1, hL, hl⟩, oH⟩ => ?_
      subst e1
      have hnew : decide (((L : Nat) : Int) = 256) = decide (b256 ≤ P / 2 ^ m / of) := by
        have := hov2 L hl hL
        rw [hb, Bool.false_or] at this
        rw [← this]
        by_cases c : L = 256
        · rw [decide_eq_true c, decide_eq_true (by omega)]
        · rw [decide_eq_false c, decide_eq_false (by omega)]
      simp only [core1, fgr, execOp, opd, ofValue, putT, put, nth, forgetL, bor, binInt, shiftB, intOp, doPick, branch, List.getElem?_cons_succ, List.getElem?_cons_zero, int_beq, decide_true]
    all_goals
      have ha1 := ha.keep (oH _ hi)
      have hv1 := hv.keep (oH _ hib)
      rw [opv_rd (ha1.all ti25 rfl rfl), range4]
      simp only [core1, hkr, execOp, opd, opds, ofValue, putT, put, nth, doCall, callV_func, List.nil_append, List.append_nil]
      refine opv_callf fH (f46 (q % b256) 1 H k hq256 (by decide) fH) fun v2 H2 k2 hk2 fH2 ⟨e2, o2⟩ => ?_
      subst e2
      have ha2 := ha1.keep (o2 _ (by omega))
      have hv2 := hv1.keep (o2 _ (by omega))
      rw [hl1]
      simp only [core1, execOp, opd, putT, put, nth, W]
      refine opv_all4 ha2 ti25 rfl fun b3 k3 => ?_
      have k3 := pick_wd k3
      have hv3 := hv2.upd (i := i13) (b := some b3) d1
      simp only [core1, fgr, execOp, opd, ofValue, putT, put, nth, forgetL, bor, binInt, shiftB, intOp, wrapI, decide_true, w1]
      rw [opv_rd (hv3.idx0 t78 s3 rfl (show m < 512 by omega))]
      simp only [core1, execOp, opd, putT, put, nth]
      rw [opv_rd (hv3.load0 ti3 rfl (show m < 512 by omega)), hg m (by omega)]
      simp only [core1, tyr, fgr, execOp, opd, putT, put, nth, forgetL, und, lenOf, bor, binInt, shiftB, intOp, wrapI, strK, intK, ge_iff_le, decide_true, convert, convStr, isU8, w2, w3]
      by_cases c3 : of ≤ 2 * r + P / 2 ^ m % 2
      · have c3i : ((of : Nat) : Int) ≤ ((2 * r + P / 2 ^ m % 2 : Nat) : Int) := by omega
        have w4 : IntKind.u64.wrap (((2 * r + P / 2 ^ m % 2 : Nat) : Int) - ((of : Nat) : Int)) = ((2 * r + P / 2 ^ m % 2 - of : Nat) : Int) := by rw [wu64 (by omega) (by omega)]; omega
        rw [if_neg (by omega)] at dq dr
        have h2q : 2 * q % b256 < b256 := Nat.mod_lt _ (by decide)
        have h1b : 1 < b256 := by decide
        simp only [core1, fgr, execOp, opd, putT, put, nth, forgetL, bor, binInt, shiftB, intOp, wrapI, decide_true, c3i, w4]
        refine run_draw.2 ⟨rfl, ?_⟩
        simp only [fe_cons, execOp, opd, nth]
        rw [fev_rd (k3.all ti25 rfl rfl), range4]
        simp only [fe_cons, hkr, execOp, opd, opds, ofValue, putT, put, doCall, callV_func, List.nil_append, List.append_nil, Nat.zero_add]
        have fH3 : Free (upd H2 i13 (some b3)) k2 := fH2.upd (by omega)
        refine fev_free fH3 (f43 1 _ _ (by decide)) (f43 1 _ _ (by decide)) fun v4 H4 k4 hk4 fH4 ⟨e4, o4⟩ => ?_
        subst e4
        simp only [fe_cons, hkr, execOp, opd, opds, putT, put, nth, doCall, callV_func, List.nil_append, List.append_nil, Nat.reduceAdd]
        refine fev_free fH4 (f47 (2 * q % b256) 1 _ _ h2q h1b Free.none) (f47 (2 * q % b256) 1 _ _ h2q h1b fH4) fun v5 H5 k5 hk5 fH5 ⟨e5, o5⟩ => ?_
        subst e5
        simp only [fe_cons, fev_pure, execOp, opd, putT, put, nth, extract, getO, List.getElem?_cons_succ, List.getElem?_cons_zero, Nat.reduceAdd, W]
        refine fev_all4 (k3.keep ((o5 _ (by omega)).trans (o4 _ (by omega)))) ti25 rfl fun b6 k6 => ?_
        have k6 := pick_wd k6
        simp only [fe_nil, core1, fgr, execOp, opd, ofValue, putT, put, nth, forgetL, bor, binInt, shiftB, intOp, wrapI, Nat.reduceAdd, decide_true]
        refine ⟨(by (try simp (disch := omega) only [fine, List.all_cons, List.all_nil, clash_pl, clash_pr, Bool.not_false, Bool.true_or, Bool.and_true, Bool.true_and, clash_nn, clash_nw, clash_xn]); repeat' (first | rfl | exact (Bool.or_eq_true _ _).mpr (.inr rfl) | refine (Bool.and_eq_true _ _).mpr ⟨?_, ?_⟩)), ?_⟩
        simp only [hwm]
        refine ih _ k5 _ _ _ _ _ _ _ _ _ _ _ _ _ _ (by omega) hnew dr.symm ((hv3.keep ((o5 _ (by omega)).trans (o4 _ (by omega)))).upd d1) (k6.ext fun j hj => ?_) (by omega) (by omega) (fH5.upd (by omega)) (fun j hj => ?_)
        · rw [dq, Nat.mod_add_mod]
        · rw [upd_ne _ _ (by omega), o5 j (by omega), o4 j (by omega), upd_ne _ _ (by omega), o2 j (by omega), oH j (by omega)]; exact hk j hj
      · have c3i : ¬ ((of : Nat) : Int) ≤ ((2 * r + P / 2 ^ m % 2 : Nat) : Int) := by omega
        rw [if_pos (by omega)] at dq dr
        simp only [core1, fgr, execOp, opd, ofValue, putT, put, nth, forgetL, bor, binInt, shiftB, intOp, wrapI, decide_true, decide_false, c3i, hwm]
        refine ih _ k2 _ _ _ _ _ _ _ _ _ _ _ _ _ _ (by omega) hnew dr.symm hv3 (k3.ext fun j hj => by rw [dq]) (by omega) (by omega) (fH2.upd (by omega)) (fun j hj => ?_)
        rw [upd_ne _ _ (by omega), o2 j (by omega), oH j (by omega)]; exact hk j hj
/- A number scaled: the document's. -/
theorem bit_mod {P j : Nat} (hj : j < 256) : bit (P % b256) j = bit P j := by
  have h : (P % 2 ^ 256).testBit j = P.testBit j := by rw [Nat.testBit_mod_two_pow, decide_eq_true hj, Bool.true_and]
  rw [Nat.testBit_eq_decide_div_mod_eq, Nat.testBit_eq_decide_div_mod_eq] at h
  rw [p256]
  unfold bit
  have b1 : P % 2 ^ 256 / 2 ^ j % 2 < 2 := Nat.mod_lt _ (by decide)
  have b2 : P / 2 ^ j % 2 < 2 := Nat.mod_lt _ (by decide)
  generalize P % 2 ^ 256 / 2 ^ j % 2 = p at *
  generalize P / 2 ^ j % 2 = q at *
  by_cases e : q = 1
  · rw [decide_eq_true e] at h
    have := of_decide_eq_true h
    omega
  · rw [decide_eq_false e] at h
    have := of_decide_eq_false h
    omega
theorem wp_app_bits {h : Hp} {n : Nat} {x y : AVal} {a b : Nat} (hx : Bt h n x a 256) (hy : Bt h n y b 256) (hne : ownId x ≠ ownId y) :
    Wp (bAppend env [78, 78] x y) h n fun v' h' n' => v' = .sl n 0 512 none 1 ∧ n' = n + 1 ∧ (∃ e, h' n = some (.row (.l (cellsF .i64 512 (fun j => if j < 256 then bit a j else bit b (j - 256)))) e)) ∧ ∀ j, j ≠ n → ownId x ≠ some j → h' j = h j := by
  obtain ⟨ix, b1, rfl, e1, r1⟩ := hx
  obtain ⟨iy, b2, rfl, e2, r2⟩ := hy
  refine wp_append_x (i := ty3.i) (e := 3) (xs := cellsF .i64 256 (bit a)) (ys := cellsF .i64 256 (bit b)) (cnt := 256) (k := 256) (.full ix 256 _ e1 b1 r1 (by rw [cellsF_len]; rfl)) rfl rfl (show ti env 3 = M.pure ty3.i from rfl) rfl ?_ (by rw [cellsF_len]; rfl) (by decide) (by decide) (cellsF_one _ _ _) (by decide) (by decide) ?_
  · intro α f Q
    have htake : ((cellsF .i64 256 (bit b)).drop 0).take (256 * 1) = cellsF .i64 256 (bit b) := by rw [List.drop_zero, List.take_of_length_le (by rw [cellsF_len]; decide)]
    show Wp ((sliceCells 1 256 (AVal.sl iy 0 256 (some 256) 1)).bind f) _ _ _ ↔ _
    simp only [sliceCells, sameSz, bind_assoc, wp_get, r2, Option.some.injEq, exists_eq_left', rowK, wp_ob, bind_pure, Cont.size, Cont.sub, Nat.zero_add, htake, cellsF_len, Nat.mul_one, Nat.ble_self_eq_true, true_and]
  · intro h' hh' hold'
    exact ⟨rfl, rfl, ⟨_, by rw [hh', cellsF_app]⟩, hold'⟩
theorem hP_aux {x b k : Nat} (hb : b = 2 ^ k) (h : x < b * b) : ∀ m, m = k + k → x < 2 ^ m := by
  intro m hm
  rw [hm, Nat.pow_add, ← hb]
  exact h
end Go.Am.Ytmlagocbphoedaa
