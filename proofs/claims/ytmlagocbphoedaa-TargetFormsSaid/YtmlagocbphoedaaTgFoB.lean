/- The functions that the statement reaches, gone through. -/
import Derived.Test.YtmlagocbphoedaaTgFoA
set_option linter.unusedSimpArgs false
set_option linter.unusedVariables false
set_option linter.defProp false
set_option maxRecDepth 10000
namespace Go.Am.Ytmlagocbphoedaa
open Go Go.Am Go.Proofs
set_option maxHeartbeats 1000000 in
theorem f34 (a b : Nat) (h : Hp) (n : Nat) (ha : a < b256) (hb : b < b256) (hf : Free h n) : Wp (callI env (evalW env) 34 [W a, W b]) h n fun v' h' n' => v' = .tup [W (if b = 0 then 0 else a / b), W (if b = 0 then 0 else a % b), .int .i64 (if b = 0 then 30 else 0)] ∧ Old h h' n := by
  refine wp_callI ff34 fi34 ?_
  by_cases h0 : b = 0
  · subst h0
    simp (disch := omega) only [fu34, Try.f34, Option.getD_some, List.replicate, core1, tyr, fgr, execOp, opd, ofValue, ops2, putT, put, nth, forgetL, sizeOf, zeroOf, bor, binOther, readCells, cellsOf, aggB, cel, alloc, doAlloc, newRow, getO, ended, resultOf, oneOrTup, rowK, List.cons_append, List.nil_append, List.length_cons, List.length_nil, Nat.reduceAdd, Nat.reduceSub, ↓reduceIte, decide_true, true_and, Nat.zero_add, memr, build, fill, List.take_succ_cons, List.take_zero, List.drop_zero, Nat.ble, Cont.size, Cont.sub, upd_same, upd_ne, Option.some.injEq, exists_eq_left', true_and, List.length_cons, List.length_nil, W, build, eq_agg0 hb]
    obtain ⟨G, hG⟩ : ∃ G, G = upd (upd (upd (upd h n (some (Blk.row (Cont.l [AVal.int IntKind.u64 (wd a 0 : Nat), AVal.int IntKind.u64 (wd a 1 : Nat), AVal.int IntKind.u64 (wd a 2 : Nat), AVal.int IntKind.u64 (wd a 3 : Nat)]) 25))) (n + 1) (some (Blk.row (Cont.l [AVal.int IntKind.u64 (wd 0 0 : Nat), AVal.int IntKind.u64 (wd 0 1 : Nat), AVal.int IntKind.u64 (wd 0 2 : Nat), AVal.int IntKind.u64 (wd 0 3 : Nat)]) 25))) (n + 1 + 1) (some (Blk.row (Cont.l [AVal.int IntKind.u64 0, AVal.int IntKind.u64 0, AVal.int IntKind.u64 0, AVal.int IntKind.u64 0]) 25))) (n + 1 + 1 + 1) (some (Blk.row (Cont.l [AVal.int IntKind.u64 0, AVal.int IntKind.u64 0, AVal.int IntKind.u64 0, AVal.int IntKind.u64 0]) 25)) := ⟨_, rfl⟩
    rw [← hG]
    have g4 : Arr .u64 G (n + 1 + 1) 4 (fun _ => 0) := arr_0 (by rw [hG, upd_ne _ _ (by omega)]; exact upd_same _ _ _)
    have g5 : Arr .u64 G (n + 1 + 1 + 1) 4 (fun _ => 0) := arr_0 (by rw [hG]; exact upd_same _ _ _)
    have fG : Free G (n + 1 + 1 + 1 + 1) := by rw [hG]; exact ((hf.new).new).new.new
    have oG : Old h G n := fun j hj => by rw [hG]; simp (disch := omega) only [upd_ne]
    refine run_draw.2 ⟨rfl, ?_⟩
    simp only [fe_cons, execOp, opd, nth]
    rw [fev_rd (g4.all ti25 rfl rfl), range4]
    simp only [fe_cons, execOp, opd, putT, put, nth, Nat.zero_add]
    rw [fev_rd (g5.all ti25 rfl rfl), range4]
    simp only [fe_cons, execOp, opd, putT, put, nth, Nat.reduceAdd]
    refine fev_all4 g4 ti25 rfl fun b4 k4 => ?_
    simp only [fe_cons, execOp, opd, putT, nth, Nat.reduceAdd]
    refine fev_all4 (g5.upd (by omega)) ti25 rfl fun b5 k5 => ?_
    simp only [fe_nil, fe_cons, fev_pure, core1, fgr, execOp, opd, ofValue, putT, put, nth, forgetL, Nat.reduceAdd, true_and]
    refine ⟨(by (try simp (disch := omega) only [fine, List.all_cons, List.all_nil, clash_pr, clash_rr, Bool.not_false, Bool.true_or, Bool.and_true, Bool.true_and, clash_rw, clash_ww]); repeat' (first | rfl | exact (Bool.or_eq_true _ _).mpr (.inr rfl) | refine (Bool.and_eq_true _ _).mpr ⟨?_, ?_⟩)), ?_⟩
    simp only [wp_pure, wp_rd ((k4.upd (i := n + 1 + 1 + 1) (b := some b5) (by omega)).all ti25 rfl rfl), wp_rd (k5.all ti25 rfl rfl), range4, pick4]
    refine ⟨rfl, fun j hj => ?_⟩
    rw [upd_ne _ _ (by omega), upd_ne _ _ (by omega)]; exact oG j hj
  · simp (disch := omega) only [fu34, Try.f34, Option.getD_some, List.replicate, core1, tyr, fgr, hkr, execOp, opd, opds, ofValue, ops2, putT, put, nth, forgetL, doCall, callV_func, sizeOf, zeroOf, bor, binOther, readCells, cellsOf, aggB, cel, alloc, doAlloc, newRow, getO, ended, resultOf, oneOrTup, rowK, List.cons_append, List.nil_append, List.append_nil, List.length_cons, List.length_nil, Nat.reduceAdd, Nat.reduceSub, ↓reduceIte, decide_false, true_and, Nat.zero_add, memr, build, fill, List.take_succ_cons, List.take_zero, List.drop_zero, Nat.ble, Cont.size, Cont.sub, upd_same, upd_ne, Option.some.injEq, exists_eq_left', true_and, List.length_cons, List.length_nil, W, build, eq_agg0 hb, h0]
    obtain ⟨G, hG⟩ : ∃ G, G = upd (upd (upd (upd h n (some (Blk.row (Cont.l [AVal.int IntKind.u64 (wd a 0 : Nat), AVal.int IntKind.u64 (wd a 1 : Nat), AVal.int IntKind.u64 (wd a 2 : Nat), AVal.int IntKind.u64 (wd a 3 : Nat)]) 25))) (n + 1) (some (Blk.row (Cont.l [AVal.int IntKind.u64 (wd b 0 : Nat), AVal.int IntKind.u64 (wd b 1 : Nat), AVal.int IntKind.u64 (wd b 2 : Nat), AVal.int IntKind.u64 (wd b 3 : Nat)]) 25))) (n + 1 + 1) (some (Blk.row (Cont.l [AVal.int IntKind.u64 0, AVal.int IntKind.u64 0, AVal.int IntKind.u64 0, AVal.int IntKind.u64 0]) 25))) (n + 1 + 1 + 1) (some (Blk.row (Cont.l [AVal.int IntKind.u64 0, AVal.int IntKind.u64 0, AVal.int IntKind.u64 0, AVal.int IntKind.u64 0]) 25)) := ⟨_, rfl⟩
    rw [← hG]
    have g3 : Arr .u64 G (n + 1) 4 (fun j => (wd b j : Nat)) := arr_W (by rw [hG, upd_ne _ _ (by omega), upd_ne _ _ (by omega)]; exact upd_same _ _ _)
    have g4 : Arr .u64 G (n + 1 + 1) 4 (fun _ => 0) := arr_0 (by rw [hG, upd_ne _ _ (by omega)]; exact upd_same _ _ _)
    have g5 : Arr .u64 G (n + 1 + 1 + 1) 4 (fun _ => 0) := arr_0 (by rw [hG]; exact upd_same _ _ _)
    have fG : Free G (n + 1 + 1 + 1 + 1) := by rw [hG]; exact ((hf.new).new).new.new
    have oG : Old h G n := fun j hj => by rw [hG]; simp (disch := omega) only [upd_ne]
    refine (opv_det (f63 a G (n + 1 + 1 + 1 + 1)) _ _ _ _ _ _ _ _ _).2 ?_
    simp only [core1, fgr, putT, put, forgetL]
    refine run_range (g := 69) (first := []) (cap := [.ptr (n + 1 + 1 + 1 + 1) 0]) rfl rfl ?_
    refine wp_callI ff69 fi69 ?_
    simp only [fu69, Try.f69, Option.getD_some, List.replicate, core1, execOp, opd, nth, ended, resultOf, oneOrTup, List.cons_append, List.nil_append, List.length_cons, List.length_nil, Nat.reduceAdd, Nat.reduceSub, Nat.zero_add, wp_pure]
    generalize hF : upd (upd G (n + 1 + 1 + 1 + 1) _) (n + 1 + 1 + 1 + 1 + 1) (some (Blk.loop _)) = F
    have fid := (congrFun hF.symm (n + 1 + 1 + 1 + 1 + 1)).trans (upd_same _ _ _)
    have f1 : Arr .u64 F (n + 1 + 1 + 1 + 1) 4 (fun j => (wd a j : Nat)) := arr_W (by rw [← hF, upd_ne _ _ (by omega)]; exact upd_same _ _ _)
    have fk : ∀ j, j < n + 1 + 1 + 1 + 1 → F j = G j := fun j hj => by rw [← hF, upd_ne _ _ (by omega), upd_ne _ _ (by omega)]
    have f3 := g3.keep (fk _ (by omega))
    have f4 := g4.keep (fk _ (by omega))
    have f5 := g5.keep (fk _ (by omega))
    have fF : Free F (n + 1 + 1 + 1 + 1 + 1 + 1) := by rw [← hF]; exact fG.new.new
    have oF : Old h F n := fun j hj => by rw [fk j (by omega)]; exact oG j hj
    clear hF
    rw [opv_rd (f1.all ti25 rfl rfl), range4]
    simp only [core1, hkr, execOp, opd, opds, putT, put, nth, doCall, callV_func, List.nil_append, List.append_nil]
    refine opv_callf fF (f70 a F _ ha) fun v1 h1 n1 hn1 hf1 ⟨⟨L, e1, hL, hlt⟩, old1⟩ => ?_
    subst e1
    have hw : IntKind.i64.wrap (((L : Nat) : Int) - 1) = ((L : Nat) : Int) - 1 := w64 (by omega) (by omega)
    simp only [core1, fgr, execOp, opd, ofValue, putT, put, nth, forgetL, bor, binInt, shiftB, intOp, wrapI, decide_true, hw]
    have hz : a / 2 ^ L = 0 := Nat.div_eq_of_lt hlt
    refine loop69 _ _ n a b (n + 1 + 1 + 1 + 1) (n + 1) (n + 1 + 1) (n + 1 + 1 + 1) (n + 1 + 1 + 1 + 1 + 1) ha (by omega) hb (by omega) (by omega) h ?_ L h1 n1 _ _ _ _ _ _ _ _ _ _ _ _ _ _ hL ((old1 _ (by omega)).trans fid) (f1.keep (old1 _ (by omega))) (f3.keep (old1 _ (by omega))) ((f4.keep (old1 _ (by omega))).ext fun j hj => ?_) ((f5.keep (old1 _ (by omega))).ext fun j hj => ?_) (by omega) hf1 (oF.trans old1 (by omega))
    · intro h2 n2 tm' x0 x1 x2 x6 x7 x8 x9 x12 x16 x17 x18 x36 hid k4 k5 hn2 hf2 ho2
      simp only [core1, true_and]
      refine ⟨_, hid, by simp [L34], .normal, rfl, ?_⟩
      simp only [core1]
      have k4 := k4.upd (i := n + 1 + 1 + 1 + 1 + 1) (b := some (Blk.loop { L34 (x0 :: x1 :: x2 :: .ptr (n + 1) 0 :: .ptr (n + 1 + 1) 0 :: .ptr (n + 1 + 1 + 1) 0 :: x6 :: x7 :: x8 :: x9 :: AVal.junk :: AVal.junk :: x12 :: AVal.junk :: AVal.junk :: AVal.junk :: x16 :: x17 :: x18 :: AVal.junk :: AVal.junk :: AVal.junk :: AVal.junk :: AVal.junk :: AVal.junk :: AVal.junk :: AVal.junk :: AVal.junk :: AVal.junk :: AVal.junk :: AVal.junk :: AVal.junk :: AVal.junk :: AVal.junk :: AVal.junk :: AVal.junk :: x36 :: AVal.junk :: AVal.junk :: AVal.junk :: AVal.junk :: AVal.junk :: AVal.junk :: AVal.junk :: AVal.junk :: AVal.junk :: AVal.junk :: AVal.junk :: AVal.junk :: AVal.junk :: AVal.junk :: AVal.junk :: AVal.junk :: AVal.junk :: []) with state := .exhausted })) (by omega)
      have k5 := k5.upd (i := n + 1 + 1 + 1 + 1 + 1) (b := some (Blk.loop { L34 (x0 :: x1 :: x2 :: .ptr (n + 1) 0 :: .ptr (n + 1 + 1) 0 :: .ptr (n + 1 + 1 + 1) 0 :: x6 :: x7 :: x8 :: x9 :: AVal.junk :: AVal.junk :: x12 :: AVal.junk :: AVal.junk :: AVal.junk :: x16 :: x17 :: x18 :: AVal.junk :: AVal.junk :: AVal.junk :: AVal.junk :: AVal.junk :: AVal.junk :: AVal.junk :: AVal.junk :: AVal.junk :: AVal.junk :: AVal.junk :: AVal.junk :: AVal.junk :: AVal.junk :: AVal.junk :: AVal.junk :: AVal.junk :: x36 :: AVal.junk :: AVal.junk :: AVal.junk :: AVal.junk :: AVal.junk :: AVal.junk :: AVal.junk :: AVal.junk :: AVal.junk :: AVal.junk :: AVal.junk :: AVal.junk :: AVal.junk :: AVal.junk :: AVal.junk :: AVal.junk :: AVal.junk :: []) with state := .exhausted })) (by omega)
      refine run_draw.2 ⟨rfl, ?_⟩
      simp only [fe_cons, execOp, opd, nth]
      rw [fev_rd (k4.all ti25 rfl rfl), range4]
      simp only [fe_cons, execOp, opd, putT, put, nth, Nat.zero_add]
      rw [fev_rd (k5.all ti25 rfl rfl), range4]
      simp only [fe_cons, execOp, opd, putT, put, nth, Nat.reduceAdd]
      refine fev_all4 k4 ti25 rfl fun b4 m4 => ?_
      simp only [fe_cons, execOp, opd, putT, nth, Nat.reduceAdd]
      refine fev_all4 (k5.upd (by omega)) ti25 rfl fun b5 m5 => ?_
      simp only [fe_nil, fe_cons, fev_pure, core1, fgr, execOp, opd, ofValue, putT, put, nth, forgetL, Nat.reduceAdd, true_and]
      refine ⟨(by (try simp (disch := omega) only [fine, List.all_cons, List.all_nil, clash_pr, clash_rr, Bool.not_false, Bool.true_or, Bool.and_true, Bool.true_and, clash_rw, clash_ww]); repeat' (first | rfl | exact (Bool.or_eq_true _ _).mpr (.inr rfl) | refine (Bool.and_eq_true _ _).mpr ⟨?_, ?_⟩)), ?_⟩
      simp only [true_and, wp_pure, wp_rd ((m4.upd (i := n + 1 + 1 + 1) (b := some b5) (by omega)).all ti25 rfl rfl), wp_rd (m5.all ti25 rfl rfl), range4, pick4]
      intro j hj
      rw [upd_ne _ _ (by omega), upd_ne _ _ (by omega), upd_ne _ _ (by omega)]; exact ho2 j hj
    · rw [hz, Nat.zero_div, Nat.zero_mul]; unfold wd; simp
    · rw [hz, Nat.zero_mod]; unfold wd; simp
theorem al25 (h : Hp) (n : Nat) : Wp (doAlloc env 25) h n fun v' h' n' => v' = .ptr n 0 ∧ Arr .u64 h' n 4 (fun _ => 0) ∧ (∀ j, j ≠ n → h' j = h j) ∧ n' = n + 1 := by
  have : Wp (doAlloc env 25) h n fun v' h' n' => v' = .ptr n 0 ∧ h' = upd h n (some (.row (.l [.int .u64 0, .int .u64 0, .int .u64 0, .int .u64 0]) 25)) ∧ n' = n + 1 := by
    simp only [core1, tyr, zeroOf, cel, alloc, doAlloc, newRow, and_self, wp_pure, wp_new]
  refine wp_mono this fun v h' n' hh => ?_
  obtain ⟨a, b, c⟩ := hh
  subst b
  exact ⟨a, arr_0 (upd_same _ _ _), fun j hj => upd_ne _ _ hj, c⟩
/- Bits of numbers, numbers of bits, and sums of bits: the document's. -/
theorem t78 : und env 78 = M.pure (.slice 3) := rfl
theorem s3 : sizeOf env 3 = M.pure 1 := rfl
/-- A number's bits in memory of their own. -/
def Bt (h : Hp) (n : Nat) (v : AVal) (a m : Nat) : Prop := ∃ id, id < n ∧ v = .sl id 0 m (some m) 1 ∧ ∃ e, h id = some (.row (.l (cellsF .i64 m (bit a))) e)
theorem Bt.nums {h : Hp} {n : Nat} {v : AVal} {a m : Nat} (hb : Bt h n v a m) : ∃ id, id < n ∧ ownId v = some id ∧ Nums .i64 h v id 0 m m (bit a) := by
  obtain ⟨id, h1, rfl, e, h2⟩ := hb
  exact ⟨id, h1, rfl, ⟨_, rfl⟩, by omega, e, h2⟩
theorem Bt.old {h h' : Hp} {n n' : Nat} {v : AVal} {a m : Nat} (hb : Bt h n v a m) (ho : Old h h' n) (hn : n ≤ n') : Bt h' n' v a m := by
  obtain ⟨id, h1, e1, e, h2⟩ := hb
  exact ⟨id, by omega, e1, e, (ho id h1).trans h2⟩
/-- .. that was just made. -/
def NewB (h : Hp) (n : Nat) (v : AVal) (a m : Nat) (h' : Hp) (n' : Nat) : Prop := Bt h' n' v a m ∧ (∀ j, ownId v = some j → n ≤ j) ∧ Old h h' n
theorem loop44 (Q : Post0) (ks : List Kf) (a i1 i3 n : Nat) (v y2 : AVal) (d1 : i1 ≠ i3) (b3 : i3 < n) (h0 : Hp)
    (hq : ∀ (h : Hp) (x0 x4 x7 : AVal), Nums .i64 h v i3 0 256 256 (bit a) → (∀ j, j ≠ i3 → h j = h0 j) → Kont env 44 none Q ks (.exit 0) (x0 :: .ptr i1 0 :: y2 :: v :: x4 :: AVal.junk :: AVal.junk :: x7 :: AVal.junk :: AVal.junk :: AVal.junk :: AVal.junk :: AVal.junk :: AVal.junk :: AVal.junk :: AVal.junk :: AVal.junk :: AVal.junk :: AVal.junk :: AVal.junk :: AVal.junk :: AVal.junk :: AVal.junk :: AVal.junk :: []) h n) :
    ∀ (k i : Nat) (h : Hp) (x0 x7 : AVal), i + k = 256 → Arr .u64 h i1 4 (fun j => (wd a j : Nat)) → Nums .i64 h v i3 0 256 256 (fun j => if j < i then bit a j else 0) → (∀ j, j ≠ i3 → h j = h0 j) →
    Run env 44 none Q (.loop lp44_0) ks (x0 :: .ptr i1 0 :: y2 :: v :: .int .i64 (i : Nat) :: AVal.junk :: AVal.junk :: x7 :: AVal.junk :: AVal.junk :: AVal.junk :: AVal.junk :: AVal.junk :: AVal.junk :: AVal.junk :: AVal.junk :: AVal.junk :: AVal.junk :: AVal.junk :: AVal.junk :: AVal.junk :: AVal.junk :: AVal.junk :: AVal.junk :: []) h n := by
  intro k
  induction k with
  | zero =>
    intro i h x0 x7 hi ha hv hk
    have : i = 256 := by omega
    subst this
    have hc : ¬ ((256 : Nat) : Int) < 256 := by decide
    rw [run_loop]
    simp only [lp44_0, loopsOf, Try.f44, Option.getD_some, core1, fgr, execOp, opd, ofValue, putT, put, nth, forgetL, bor, binInt, shiftB, intOp, List.nil_append, List.append_nil, Int.cast_ofNat_Int, Int.reduceLT, decide_true, decide_false, List.getD_cons_zero]
    exact hq h _ _ _ (hv.ext fun j hj => if_pos hj) hk
  | succ k ih =>
    intro i h x0 x7 hi ha hv hk
    have h4 : i < 256 := by omega
    have hc : ((i : Nat) : Int) < 256 := by omega
    have hw : IntKind.i64.wrap (((i : Nat) : Int) + 1) = ((i + 1 : Nat) : Int) := by rw [w64 (by omega) (by omega)]; omega
    have q1 : IntKind.i64.wrap (Int.tdiv ((i : Nat) : Int) 64) = ((i / 64 : Nat) : Int) := by rw [Int.tdiv_eq_ediv_of_nonneg (by omega), w64 (by omega) (by omega)]; omega
    have q2 : Int.tmod ((i : Nat) : Int) 64 = ((i % 64 : Nat) : Int) := by rw [Int.tmod_eq_emod_of_nonneg (by omega)]; omega
    have q3 : IntKind.u64.wrap ((i % 64 : Nat) : Int) = ((i % 64 : Nat) : Int) := wu64 (by omega) (by omega)
    have h64 : i / 64 < 4 := by omega
    have h0r : (0 : Int) ≤ ((i % 64 : Nat) : Int) := by omega
    have hlt : wd a (i / 64) / 2 ^ (i % 64) < 18446744073709551616 := Nat.lt_of_le_of_lt (Nat.div_le_self _ _) (wd_lt _ _)
    have hbit := bit_wd a i
    have hb2 : a / 2 ^ i % 2 < 2 := Nat.mod_lt _ (by decide)
    have q4 : IntKind.i64.wrap ((a / 2 ^ i % 2 : Nat) : Int) = ((a / 2 ^ i % 2 : Nat) : Int) := w64 (by omega) (by omega)
    rw [run_loop]
    simp only [lp44_0, loopsOf, Try.f44, Option.getD_some, core1, fgr, execOp, opd, ofValue, putT, put, nth, forgetL, bor, binInt, shiftB, intOp, wrapI, List.nil_append, List.append_nil, Int.reduceNe, decide_true, true_and, List.getD_cons_zero, hc, q1]
    rw [opv_rd (arr_idx t25 s23 rfl h64)]
    simp only [core1, execOp, opd, putT, put, nth]
    rw [opv_rd (ha.load ti23 rfl h64)]
    simp only [core1, tyr, execOp, opd, ofValue, putT, put, nth, und, lenOf, bor, binInt, shiftB, shiftOp, intOp, wrapI, strK, intK, Int.reduceNe, decide_true, true_and, convert, convStr, isU8, q2, q3, h0r, ushr _ (i % 64) (by omega), umask1 hlt, hbit, q4]
    rw [opv_rd (hv.idx0 t78 s3 rfl h4)]
    simp only [core1, execOp, opd, putT, put, nth]
    refine hv.store0 ti3 rfl h4 fun b hb => ?_
    simp only [core1, fgr, execOp, opd, ofValue, putT, put, nth, forgetL, bor, binInt, shiftB, intOp, wrapI, decide_true, hw]
    refine ih (i + 1) _ _ _ (by omega) (ha.upd d1) (hb.ext fun j hj => ?_) (fun j hj => by rw [upd_ne _ _ hj]; exact hk j hj)
    by_cases e : j = i
    · subst e
      simp only [if_pos (Nat.lt_succ_self j), ↓reduceIte]; rfl
    · by_cases e2 : j < i
      · simp only [if_neg e, if_pos e2, if_pos (show j < i + 1 by omega)]
      · simp only [if_neg e, if_neg e2, if_neg (show ¬ j < i + 1 by omega)]
theorem f44 (a : Nat) (h : Hp) (n : Nat) : Wp (callI env (evalW env) 44 [W a]) h n fun v' h' n' => NewB h n v' a 256 h' n' := by
  refine wp_callI ff44 fi44 ?_
  simp (disch := omega) only [fu44, Try.f44, Option.getD_some, List.replicate, core1, tyr, fgr, execOp, opd, ofValue, putT, put, nth, forgetL, cel, alloc, newRow, ended, resultOf, oneOrTup, List.cons_append, List.nil_append, List.length_cons, List.length_nil, Nat.reduceSub, Nat.zero_add, wp_pure, List.length_cons, List.length_nil, W]
  refine nums_make (m := 256) rfl t78 ti3 rfl rfl (by decide) (by decide) fun hv => ?_
  simp only [core1, fgr, execOp, opd, ofValue, putT, put, nth, forgetL]
  refine loop44 _ _ a n (n + 1) (n + 1 + 1) _ _ (by omega) (by omega) _ ?_ 256 0 _ _ _ rfl (arr_W (by rw [upd_ne _ _ (by omega)]; exact upd_same _ _ _)) (hv.ext fun j hj => by simp) (fun _ _ => rfl)
  intro h' x0 x4 x7 hv hk
  simp only [core1, fgr, execOp, opd, putT, put, nth, forgetL, true_and]
  obtain ⟨_, _, e, he⟩ := hv
  refine ⟨⟨n + 1, by omega, rfl, e, he⟩, fun j hj => by injection hj with hj; omega, fun j hj => ?_⟩
  rw [hk j (by omega)]
  simp (disch := omega) only [upd_ne]
/- Numbers of bits, and sums of bits: the document's. -/
theorem p256 : b256 = 2 ^ 256 := by decide
theorem loop65 (Q : Post0) (ks : List Kf) (a i3 id off tot n : Nat) (v y2 : AVal) (g : Nat → Int) (hg : ∀ j, j < 256 → g (off + j) = bit a j) (d1 : id ≠ i3) (b3 : i3 < n) (h0 : Hp)
    (hq : ∀ (h : Hp) (x0 x4 x12 x19 : AVal), Arr .u64 h i3 4 (fun j => (wd (a % b256) j : Nat)) → (∀ j, j ≠ i3 → h j = h0 j) → Kont env 65 none Q ks (.exit 0) (x0 :: AVal.junk :: y2 :: .ptr i3 0 :: x4 :: AVal.junk :: AVal.junk :: AVal.junk :: AVal.junk :: AVal.junk :: AVal.junk :: AVal.junk :: x12 :: AVal.junk :: AVal.junk :: AVal.junk :: AVal.junk :: AVal.junk :: AVal.junk :: x19 :: AVal.junk :: AVal.junk :: AVal.junk :: AVal.junk :: AVal.junk :: AVal.junk :: AVal.junk :: AVal.junk :: AVal.junk :: AVal.junk :: AVal.junk :: AVal.junk :: AVal.junk :: []) h n) :
    ∀ (k i : Nat) (h : Hp) (x12 x19 : AVal), i + k = 256 → Nums .i64 h v id off 256 tot g → Arr .u64 h i3 4 (fun j => (wd (a % 2 ^ i) j : Nat)) → (∀ j, j ≠ i3 → h j = h0 j) →
    Run env 65 none Q (.loop lp65_0) ks (v :: AVal.junk :: y2 :: .ptr i3 0 :: .int .i64 (i : Nat) :: AVal.junk :: AVal.junk :: AVal.junk :: AVal.junk :: AVal.junk :: AVal.junk :: AVal.junk :: x12 :: AVal.junk :: AVal.junk :: AVal.junk :: AVal.junk :: AVal.junk :: AVal.junk :: x19 :: AVal.junk :: AVal.junk :: AVal.junk :: AVal.junk :: AVal.junk :: AVal.junk :: AVal.junk :: AVal.junk :: AVal.junk :: AVal.junk :: AVal.junk :: AVal.junk :: AVal.junk :: []) h n := by
  intro k
  induction k with
  | zero =>
    intro i h x12 x19 hi hv ha hk
    have : i = 256 := by omega
    subst this
    have hc : ¬ ((256 : Nat) : Int) < 256 := by decide
    have hc2 : ¬ ((256 : Nat) : Int) < ((256 : Nat) : Int) := by decide
    rw [run_loop]
    simp only [lp65_0, loopsOf, Try.f65, Option.getD_some, core1, fgr, execOp, opd, opds, ofValue, putT, put, nth, forgetL, doCall, builtin, one1, bor, binInt, shiftB, intOp, doPick, branch, List.getElem?_cons_succ, List.getElem?_cons_zero, List.nil_append, List.append_nil, Int.cast_ofNat_Int, Int.reduceLT, decide_true, decide_false, List.getD_cons_zero, hv.len t78]
    exact hq h _ _ _ _ (ha.ext fun j hj => by rw [p256]) hk
  | succ k ih =>
    intro i h x12 x19 hi hv ha hk
    have h4 : i < 256 := by omega
    have hc : ((i : Nat) : Int) < 256 := by omega
    have hc2 : ((i : Nat) : Int) < ((256 : Nat) : Int) := by omega
    have hw : IntKind.i64.wrap (((i : Nat) : Int) + 1) = ((i + 1 : Nat) : Int) := by rw [w64 (by omega) (by omega)]; omega
    have q1 : IntKind.i64.wrap (Int.tdiv ((i : Nat) : Int) 64) = ((i / 64 : Nat) : Int) := by rw [Int.tdiv_eq_ediv_of_nonneg (by omega), w64 (by omega) (by omega)]; omega
    have q2 : Int.tmod ((i : Nat) : Int) 64 = ((i % 64 : Nat) : Int) := by rw [Int.tmod_eq_emod_of_nonneg (by omega)]; omega
    have q3 : IntKind.u64.wrap ((i % 64 : Nat) : Int) = ((i % 64 : Nat) : Int) := wu64 (by omega) (by omega)
    have h64 : i / 64 < 4 := by omega
    have hr64 : i % 64 < 64 := Nat.mod_lt _ (by decide)
    have h0r : (0 : Int) ≤ ((i % 64 : Nat) : Int) := by omega
    rw [run_loop]
    simp only [lp65_0, loopsOf, Try.f65, Option.getD_some, core1, fgr, execOp, opd, opds, ofValue, putT, put, nth, forgetL, doCall, builtin, one1, bor, binInt, shiftB, intOp, doPick, branch, List.getElem?_cons_succ, List.getElem?_cons_zero, List.nil_append, List.append_nil, Int.cast_ofNat_Int, decide_true, List.getD_cons_zero, hv.len t78, hc]
    rw [opv_rd (hv.idx t78 s3 rfl h4)]
    simp only [core1, execOp, opd, putT, put, nth]
    rw [opv_rd (hv.load ti3 rfl h4), hg i h4]
    have hms := mod_succ_bit a i
    rcases bit_lt a i with hb | hb
    · have hb' : a / 2 ^ i % 2 = 0 := by unfold bit at hb; omega
      simp only [core1, fgr, execOp, opd, ofValue, putT, put, nth, forgetL, bor, binInt, shiftB, intOp, wrapI, Int.reduceLT, gt_iff_lt, decide_true, decide_false, hb, hw]
      refine ih (i + 1) h _ _ (by omega) hv (ha.ext fun j hj => by rw [hms, hb', Nat.mul_zero, Nat.add_zero]) hk
    · have hb' : a / 2 ^ i % 2 = 1 := by unfold bit at hb; omega
      have hQ : a % 2 ^ i < 2 ^ i := Nat.mod_lt _ (Nat.two_pow_pos _)
      have hlow := fun j => low_bit (a % 2 ^ i) i j hQ
      have hsum : (wd (a % 2 ^ i) (i / 64) + 2 ^ (i % 64)) % 18446744073709551616 = wd (a % 2 ^ (i + 1)) (i / 64) := by
        have := hlow (i / 64)
        rw [if_pos rfl] at this
        rw [hms, hb', Nat.mul_one, this, Nat.mod_eq_of_lt]
        rw [← this]
        exact wd_lt _ _
      simp only [core1, fgr, execOp, opd, ofValue, putT, put, nth, forgetL, bor, binInt, shiftB, intOp, wrapI, Int.reduceLT, Int.reduceNe, gt_iff_lt, decide_true, true_and, hb, q1]
      rw [opv_rd (arr_idx t25 s23 rfl h64)]
      simp only [core1, execOp, opd, putT, put, nth]
      rw [opv_rd (ha.load ti23 rfl h64)]
      simp only [core1, tyr, execOp, opd, ofValue, putT, put, nth, und, lenOf, bor, binInt, shiftB, shiftOp, intOp, wrapI, strK, intK, Int.reduceNe, decide_true, true_and, convert, convStr, isU8, q2, q3, h0r, ushl1 _ hr64, uwrap_add, hsum]
      rw [opv_rd (arr_idx t25 s23 rfl h64)]
      simp only [core1, execOp, opd, putT, put, nth]
      refine opv_arr ha ti23 rfl h64 fun b hb2 => ?_
      simp only [core1, fgr, execOp, opd, ofValue, putT, put, nth, forgetL, bor, binInt, shiftB, intOp, wrapI, decide_true, hw]
      refine ih (i + 1) _ _ _ (by omega) (hv.upd d1) (hb2.ext fun j hj => ?_) (fun j hj => by rw [upd_ne _ _ hj]; exact hk j hj)
      by_cases e : j = i / 64
      · simp only [if_pos e]
        rw [e]
      · simp only [if_neg e]
        rw [hms, hb', Nat.mul_one, hlow j, if_neg e]
theorem f65 (v : AVal) (a id off tot : Nat) (g : Nat → Int) (hg : ∀ j, j < 256 → g (off + j) = bit a j) (h : Hp) (n : Nat) (hid : id < n) (hv : Nums .i64 h v id off 256 tot g) : Wp (callI env (evalW env) 65 [v]) h n fun v' h' n' => v' = W (a % b256) ∧ Old h h' n := by
  refine wp_callI ff65 fi65 ?_
  simp (disch := omega) only [fu65, Try.f65, Option.getD_some, List.replicate, core1, tyr, fgr, execOp, opd, ofValue, putT, put, forgetL, zeroOf, cel, alloc, doAlloc, newRow, ended, resultOf, oneOrTup, List.cons_append, List.nil_append, List.length_cons, List.length_nil, Nat.reduceSub, Nat.zero_add, List.length_cons, List.length_nil, W]
  refine loop65 _ _ a (n + 1) id off tot (n + 1 + 1) v _ g hg (by omega) (by omega) _ ?_ 256 0 _ _ _ rfl ((hv.upd (by omega)).upd (by omega)) ((arr_0 (upd_same _ _ _)).ext fun j hj => ?_) (fun _ _ => rfl)
  · intro h' x0 x4 x12 x19 ho hk
    simp only [core1, execOp, opd, nth]
    rw [opv_rd (ho.all ti25 rfl rfl), range4]
    simp only [core1, execOp, opd, putT, put, nth]
    have h2 : Arr .u64 h' n 4 (fun _ => 0) := arr_0 ((hk _ (by omega)).trans (by rw [upd_ne _ _ (by omega)]; exact upd_same _ _ _))
    refine opv_all4 h2 ti25 rfl fun bb hbb => ?_
    simp only [core1, fgr, putT, nth, forgetL, true_and, wp_pure, wp_rd (hbb.all ti25 rfl rfl), range4, pick4]
    intro j hj
    rw [upd_ne _ _ (by omega), hk j (by omega)]
    simp (disch := omega) only [upd_ne]
  · rw [Nat.pow_zero, Nat.mod_one]; unfold wd; simp
/- Sums of bits: the document's. -/
theorem loop64 (Q : Post0) (ks : List Kf) (a b m ix iy io n : Nat) (x y o : AVal) (hm : m ≤ 1000) (d1 : ix ≠ io) (d2 : iy ≠ io) (h0 : Hp)
    (hq : ∀ (h : Hp) (x0 x1 x4 x5 x8 x9 x16 : AVal), Nums .i64 h o io 0 m m (bit (a + b)) → (∀ j, j ≠ io → h j = h0 j) → Kont env 64 none Q ks (.exit 0) (x0 :: x1 :: AVal.junk :: AVal.junk :: x4 :: x5 :: o :: .int .i64 ((a % 2 ^ m + b % 2 ^ m) / 2 ^ m : Nat) :: x8 :: x9 :: AVal.junk :: AVal.junk :: AVal.junk :: AVal.junk :: AVal.junk :: AVal.junk :: x16 :: AVal.junk :: AVal.junk :: AVal.junk :: AVal.junk :: AVal.junk :: AVal.junk :: AVal.junk :: AVal.junk :: AVal.junk :: AVal.junk :: AVal.junk :: AVal.junk :: AVal.junk :: AVal.junk :: AVal.junk :: AVal.junk :: AVal.junk :: AVal.junk :: AVal.junk :: AVal.junk :: AVal.junk :: AVal.junk :: []) h n) :
    ∀ (k i : Nat) (z : Int) (h : Hp) (x4 x5 x9 x16 : AVal), i + k = m → z = ((a % 2 ^ i + b % 2 ^ i) / 2 ^ i : Nat) → Nums .i64 h x ix 0 m m (bit a) → Nums .i64 h y iy 0 m m (bit b) → Nums .i64 h o io 0 m m (fun j => if j < i then bit (a + b) j else 0) → (∀ j, j ≠ io → h j = h0 j) →
    Run env 64 none Q (.loop lp64_0) ks (x :: y :: AVal.junk :: AVal.junk :: x4 :: x5 :: o :: .int .i64 z :: .int .i64 (i : Nat) :: x9 :: AVal.junk :: AVal.junk :: AVal.junk :: AVal.junk :: AVal.junk :: AVal.junk :: x16 :: AVal.junk :: AVal.junk :: AVal.junk :: AVal.junk :: AVal.junk :: AVal.junk :: AVal.junk :: AVal.junk :: AVal.junk :: AVal.junk :: AVal.junk :: AVal.junk :: AVal.junk :: AVal.junk :: AVal.junk :: AVal.junk :: AVal.junk :: AVal.junk :: AVal.junk :: AVal.junk :: AVal.junk :: AVal.junk :: []) h n := by
  intro k
  induction k with
  | zero =>
    intro i z h x4 x5 x9 x16 hi hz hx hy ho hk
    subst hz
    have : i = m := by omega
    subst this
    have hc : ¬ ((i : Nat) : Int) < ((i : Nat) : Int) := by omega
    rw [run_loop]
    simp only [lp64_0, loopsOf, Try.f64, Option.getD_some, core1, fgr, execOp, opd, opds, putT, put, nth, forgetL, doCall, builtin, one1, bor, binInt, shiftB, intOp, List.nil_append, List.append_nil, decide_true, decide_false, List.getD_cons_zero, hx.len t78, hc]
    exact hq h _ _ _ _ _ _ _ (ho.ext fun j hj => if_pos hj) hk
  | succ k ih =>
    intro i z h x4 x5 x9 x16 hi hz hx hy ho hk
    subst hz
    have h4 : i < m := by omega
    have hc : ((i : Nat) : Int) < ((m : Nat) : Int) := by omega
    have hw : IntKind.i64.wrap (((i : Nat) : Int) + 1) = ((i + 1 : Nat) : Int) := by rw [w64 (by omega) (by omega)]; omega
    obtain ⟨s1, s2⟩ := add_bit a b i
    have ha2 : a / 2 ^ i % 2 < 2 := Nat.mod_lt _ (by decide)
    have hb2 : b / 2 ^ i % 2 < 2 := Nat.mod_lt _ (by decide)
    have hc2 : (a % 2 ^ i + b % 2 ^ i) / 2 ^ i < 2 := by
      rw [Nat.div_lt_iff_lt_mul (Nat.two_pow_pos _)]
      have := Nat.mod_lt a (Nat.two_pow_pos i)
      have := Nat.mod_lt b (Nat.two_pow_pos i)
      omega
    obtain ⟨S, hS⟩ : ∃ S, S = a / 2 ^ i % 2 + b / 2 ^ i % 2 + (a % 2 ^ i + b % 2 ^ i) / 2 ^ i := ⟨_, rfl⟩
    have e1 : IntKind.i64.wrap (IntKind.i64.wrap (bit a i + bit b i) + (((a % 2 ^ i + b % 2 ^ i) / 2 ^ i : Nat) : Int)) = ((S : Nat) : Int) := by
      have i1 : IntKind.i64.wrap (bit a i + bit b i) = ((a / 2 ^ i % 2 + b / 2 ^ i % 2 : Nat) : Int) := by unfold bit; rw [w64 (by omega) (by omega)]; omega
      rw [i1, w64 (by omega) (by omega), hS]; omega
    have e2 : Int.tmod ((S : Nat) : Int) 2 = bit (a + b) i := by rw [Int.tmod_eq_emod_of_nonneg (by omega)]; unfold bit; rw [← s1, ← hS]; omega
    have e3 : IntKind.i64.wrap (Int.tdiv ((S : Nat) : Int) 2) = (((a % 2 ^ (i + 1) + b % 2 ^ (i + 1)) / 2 ^ (i + 1) : Nat) : Int) := by rw [Int.tdiv_eq_ediv_of_nonneg (by omega), ← s2, ← hS, w64 (by omega) (by omega)]; omega
    rw [run_loop]
    simp only [lp64_0, loopsOf, Try.f64, Option.getD_some, core1, fgr, execOp, opd, opds, putT, put, nth, forgetL, doCall, builtin, one1, bor, binInt, shiftB, intOp, List.nil_append, List.append_nil, decide_true, List.getD_cons_zero, hx.len t78, hc]
    refine run_draw.2 ⟨rfl, ?_⟩
    simp only [fe_cons, fev_pure, execOp, opd, putT, put, nth, Nat.reduceAdd, Nat.zero_add]
    rw [fev_rd (hx.idx0 t78 s3 rfl h4)]
    simp only [fe_cons, execOp, opd, putT, put, nth, Nat.reduceAdd]
    rw [fev_rd (hx.load0 ti3 rfl h4)]
    simp only [fe_cons, fev_pure, execOp, opd, putT, put, nth, Nat.reduceAdd]
    rw [fev_rd (hy.idx0 t78 s3 rfl h4)]
    simp only [fe_cons, execOp, opd, putT, put, nth, Nat.reduceAdd]
    rw [fev_rd (hy.load0 ti3 rfl h4)]
    simp only [fe_nil, fe_cons, fev_pure, core1, fgr, execOp, opd, ofValue, putT, put, nth, forgetL, bor, binInt, shiftB, intOp, wrapI, Nat.reduceAdd, Int.reduceNe, decide_true, true_and, e1]
    refine ⟨(by (try simp (disch := omega) only [fine, List.all_cons, List.all_nil, clash_pr, clash_rr, Bool.not_false, Bool.true_or, Bool.and_true]); repeat' (first | rfl | exact (Bool.or_eq_true _ _).mpr (.inr rfl) | refine (Bool.and_eq_true _ _).mpr ⟨?_, ?_⟩)), ?_⟩
    simp only [e2]
    rw [opv_rd (ho.idx0 t78 s3 rfl h4)]
    simp only [core1, execOp, opd, putT, put, nth]
    refine ho.store0 ti3 rfl h4 fun bb hb => ?_
    simp only [core1, fgr, execOp, opd, ofValue, putT, put, nth, forgetL, bor, binInt, shiftB, intOp, wrapI, Int.reduceNe, decide_true, true_and, e3, hw]
    refine ih (i + 1) _ _ _ _ _ _ (by omega) rfl (hx.upd d1) (hy.upd d2) (hb.ext fun j hj => ?_) (fun j hj => by rw [upd_ne _ _ hj]; exact hk j hj)
    by_cases e : j = i
    · subst e
      simp only [if_pos (Nat.lt_succ_self j), ↓reduceIte]
    · by_cases e2 : j < i
      · simp only [if_neg e, if_pos e2, if_pos (show j < i + 1 by omega)]
      · simp only [if_neg e, if_neg e2, if_neg (show ¬ j < i + 1 by omega)]
theorem f64 (x y : AVal) (a b m : Nat) (hm : m ≤ 1000) (h : Hp) (n : Nat) (hx : Bt h n x a m) (hy : Bt h n y b m) : Wp (callI env (evalW env) 64 [x, y]) h n fun v' h' n' => (∃ o, v' = .tup [o, .int .i64 ((a % 2 ^ m + b % 2 ^ m) / 2 ^ m : Nat)] ∧ NewB h n o (a + b) m h' n') := by
  obtain ⟨ix, b1, _, hx⟩ := hx.nums
  obtain ⟨iy, b2, _, hy⟩ := hy.nums
  refine wp_callI ff64 fi64 ?_
  simp only [fu64, Try.f64, Option.getD_some, List.replicate, core1, fgr, execOp, opd, opds, ofValue, putT, put, nth, forgetL, doCall, builtin, one1, ended, resultOf, oneOrTup, List.cons_append, List.nil_append, List.length_cons, List.length_nil, Nat.reduceAdd, Nat.reduceSub, Nat.zero_add, wp_pure, hx.len t78]
  refine nums_make (m := m) rfl t78 ti3 rfl rfl (by show 8 * m ≤ _; omega) (by omega) fun ho => ?_
  simp only [core1, fgr, execOp, opd, ofValue, putT, put, nth, forgetL]
  refine loop64 _ _ a b m ix iy n (n + 1) x y _ hm (by omega) (by omega) _ ?_ m 0 0 _ _ _ _ _ (by omega) (by simp [Nat.mod_one]) (hx.upd (by omega)) (hy.upd (by omega)) (ho.ext fun j hj => by simp) (fun _ _ => rfl)
  intro h' x0 x1 x4 x5 x8 x9 x16 ho hk
  simp only [core1, fgr, execOp, opd, putT, put, nth, forgetL, true_and]
  obtain ⟨_, _, e, he⟩ := ho
  refine ⟨_, rfl, ⟨n, by omega, rfl, e, he⟩, fun j hj => by injection hj with hj; omega, fun j hj => ?_⟩
  rw [hk j (by omega), upd_ne _ _ (by omega)]
/- Sums, and how long: the document's. -/
theorem hx_kind {h : Hp} {n : Nat} {v : AVal} {a m : Nat} (hb : Bt h n v a m) : v.cells = [v] ∧ oneCell v = true ∧ isJunk v = false := by
  obtain ⟨id, _, rfl, _⟩ := hb
  exact ⟨rfl, rfl, rfl⟩
theorem f43 (a : Nat) (h : Hp) (n : Nat) (ha : a < 18446744073709551616) : Wp (callI env (evalW env) 43 [.int .u64 (a : Nat)]) h n fun v' h' n' => v' = W a ∧ Old h h' n := by
  refine wp_callI ff43 fi43 ?_
  simp (disch := omega) only [fu43, Try.f43, Option.getD_some, List.replicate, core1, tyr, fgr, execOp, opd, ofValue, putT, put, nth, forgetL, und, sizeOf, zeroOf, idx, readCells, cellsOf, aggB, cel, alloc, doAlloc, newRow, ended, resultOf, oneOrTup, rowK, moved, List.cons_append, List.nil_append, List.length_cons, List.length_nil, Nat.reduceAdd, Nat.reduceSub, Int.cast_ofNat_Int, Int.reduceLT, Int.reduceLE, not_false_eq_true, decide_true, Bool.and_true, true_and, Nat.zero_add, Int.toNat_zero, Nat.zero_mul, wp_pure, reduceCtorEq, memr, List.take_succ_cons, List.take_zero, List.drop_zero, Nat.ble, writeCells, setAll, Cont.size, Cont.set, Cont.sub, upd_same, upd_ne, List.all_cons, List.all_nil, Option.some.injEq, exists_eq_left', ne_eq, true_and, List.length_cons, List.length_nil, Nat.zero_mul, wp_get, wp_ob]
  exact ⟨W_eq (a := a) (b := 0) (c := 0) (d := 0) (by unfold of4; omega) ha (by decide) (by decide) (by decide), fun j hj => by simp (disch := omega) only [upd_ne]⟩
theorem f47 (a b : Nat) (h : Hp) (n : Nat) (ha : a < b256) (hb : b < b256) (hf : Free h n) : Wp (callI env (evalW env) 47 [W a, W b]) h n fun v' h' n' => v' = .tup [W ((a + b) % b256), .bool (decide (b256 ≤ a + b))] ∧ Old h h' n := by
  refine wp_callI ff47 fi47 ?_
  have hw : ∀ c, W c = .agg [.int .u64 (wd c 0 : Nat), .int .u64 (wd c 1 : Nat), .int .u64 (wd c 2 : Nat), .int .u64 (wd c 3 : Nat)] := fun _ => rfl
  rw [hw a, hw b]
  simp (disch := omega) only [fu47, Try.f47, Option.getD_some, List.replicate, core1, tyr, fgr, execOp, opd, ofValue, putT, put, nth, forgetL, zeroOf, cel, alloc, doAlloc, newRow, ended, resultOf, oneOrTup, List.cons_append, List.nil_append, List.length_cons, List.length_nil, Nat.reduceAdd, Nat.reduceSub, Nat.zero_add, List.length_cons, List.length_nil]
  obtain ⟨G, hG⟩ : ∃ G, G = upd (upd (upd h n (some (Blk.row (Cont.l [AVal.int IntKind.u64 (wd a 0 : Nat), AVal.int IntKind.u64 (wd a 1 : Nat), AVal.int IntKind.u64 (wd a 2 : Nat), AVal.int IntKind.u64 (wd a 3 : Nat)]) 25))) (n + 1) (some (Blk.row (Cont.l [AVal.int IntKind.u64 (wd b 0 : Nat), AVal.int IntKind.u64 (wd b 1 : Nat), AVal.int IntKind.u64 (wd b 2 : Nat), AVal.int IntKind.u64 (wd b 3 : Nat)]) 25))) (n + 1 + 1) (some (Blk.row (Cont.l [AVal.int IntKind.u64 0, AVal.int IntKind.u64 0, AVal.int IntKind.u64 0, AVal.int IntKind.u64 0]) 25)) := ⟨_, rfl⟩
  rw [← hG]
  have g2 : Arr .u64 G n 4 (fun j => (wd a j : Nat)) := arr_W (by rw [hG, upd_ne _ _ (by omega), upd_ne _ _ (by omega)]; exact upd_same _ _ _)
  have g3 : Arr .u64 G (n + 1) 4 (fun j => (wd b j : Nat)) := arr_W (by rw [hG, upd_ne _ _ (by omega)]; exact upd_same _ _ _)
  have g4 : Arr .u64 G (n + 1 + 1) 4 (fun _ => 0) := arr_0 (by rw [hG]; exact upd_same _ _ _)
  have fG : Free G (n + 1 + 1 + 1) := by rw [hG]; exact ((hf.new).new).new
  have oG : Old h G n := fun j hj => by rw [hG]; simp (disch := omega) only [upd_ne]
  refine run_draw.2 ⟨rfl, ?_⟩
  simp only [fe_cons, execOp, opd, nth]
  rw [fev_rd (g2.all ti25 rfl rfl), range4]
  simp only [fe_cons, hkr, execOp, opd, opds, putT, put, nth, doCall, callV_func, List.nil_append, List.append_nil, Nat.zero_add]
  refine fev_free fG (f44 a _ _) (f44 a _ _) fun x h1 n1 hn1 hf1 ⟨bx, ix, ox⟩ => ?_
  have kx := hx_kind bx
  have g3 := g3.keep (ox _ (by omega))
  simp only [fe_cons, execOp, opd, putT, put, nth, Nat.reduceAdd]
  rw [fev_rd (g3.all ti25 rfl rfl), range4]
  simp only [fe_cons, hkr, execOp, opd, opds, putT, put, nth, doCall, callV_func, List.nil_append, List.append_nil, Nat.reduceAdd]
  refine fev_free hf1 (f44 b _ _) (f44 b _ _) fun y h2 n2 hn2 hf2 ⟨by_, iy, oy⟩ => ?_
  have ky := hx_kind by_
  simp only [fe_cons, hkr, execOp, opd, opds, putT, put, nth, doCall, callV_func, List.nil_append, List.append_nil, Nat.reduceAdd]
  refine fev_any hf2 (f64 x y a b 256 (by decide) h2 n2 (bx.old oy hn2) by_) fun v3 h3 n3 rr ww hn3 hf3 ⟨o, e3, bo, io, oo⟩ => ?_
  subst e3
  have ko := hx_kind bo
  simp only [fe_nil, fe_cons, fev_pure, core1, fgr, hkr, execOp, opd, opds, putT, put, nth, forgetL, doCall, callV_func, extract, getO, List.getElem?_cons_succ, List.getElem?_cons_zero, List.nil_append, List.append_nil, Nat.reduceAdd]
  refine ⟨(by (try simp (disch := omega) only [fine, List.all_cons, List.all_nil, clash_pr, clash_rr, Bool.not_false, Bool.true_or, Bool.and_true, Bool.true_and, clash_nn, clash_xn, clash_nx]); repeat' (first | rfl | exact (Bool.or_eq_true _ _).mpr (.inr rfl) | refine (Bool.and_eq_true _ _).mpr ⟨?_, ?_⟩)), ?_⟩
  obtain ⟨id, hid, _, hn⟩ := bo.nums
  refine opv_callf hf3 (f65 o (a + b) id 0 256 _ (fun j hj => by rw [Nat.zero_add]) h3 n3 hid hn) fun v4 h4 n4 hn4 hf4 ⟨e4, o4⟩ => ?_
  subst e4
  have hcar : decide ((0 : Int) < (((a % 2 ^ 256 + b % 2 ^ 256) / 2 ^ 256 : Nat) : Int)) = decide (b256 ≤ a + b) := by
    rw [← p256, Nat.mod_eq_of_lt ha, Nat.mod_eq_of_lt hb]
    by_cases hc : b256 ≤ a + b
    · have : 0 < (a + b) / b256 := Nat.div_pos hc (by decide)
      rw [decide_eq_true hc, decide_eq_true (by omega)]
    · rw [decide_eq_false hc, Nat.div_eq_of_lt (by omega)]; rfl
  have k4 : Arr .u64 h4 (n + 1 + 1) 4 (fun _ => 0) := g4.keep ((o4 _ (by omega)).trans ((oo _ (by omega)).trans ((oy _ (by omega)).trans (ox _ (by omega)))))
  simp only [core1, execOp, opd, ofValue, putT, put, nth, bor, binInt, shiftB, intOp, gt_iff_lt, decide_true, W]
  refine opv_all4 k4 ti25 rfl fun bb hbb => ?_
  simp only [core1, fgr, execOp, opd, putT, put, nth, forgetL, true_and, wp_pure, wp_rd (hbb.all ti25 rfl rfl), range4, pick4, hcar]
  intro j hj
  rw [upd_ne _ _ (by omega), o4 j (by omega), oo j (by omega), oy j (by omega), ox j (by omega)]
  exact oG j hj
/-- How many bits a number has. -/
def isLen (a L : Nat) : Prop := a < 2 ^ L ∧ (L = 0 ∨ 2 ^ (L - 1) ≤ a)
theorem loop45 (Q : Post0) (ks : List Kf) (a id n : Nat) (v y1 y2 : AVal) (h : Hp) (hv : Nums .i64 h v id 0 256 256 (bit a))
    (hq : ∀ (L : Nat) (x0 x16 : AVal), L ≤ 256 → isLen a L → Kont env 45 none Q ks (.exit 0) (x0 :: y1 :: y2 :: v :: .int .i64 (L : Nat) :: AVal.junk :: AVal.junk :: AVal.junk :: AVal.junk :: AVal.junk :: AVal.junk :: AVal.junk :: AVal.junk :: AVal.junk :: AVal.junk :: AVal.junk :: x16 :: AVal.junk :: AVal.junk :: AVal.junk :: []) h n) :
    ∀ (i : Nat) (x0 x16 : AVal), i ≤ 256 → a < 2 ^ i →
    Run env 45 none Q (.loop lp45_0) ks (x0 :: y1 :: y2 :: v :: .int .i64 (i : Nat) :: AVal.junk :: AVal.junk :: AVal.junk :: AVal.junk :: AVal.junk :: AVal.junk :: AVal.junk :: AVal.junk :: AVal.junk :: AVal.junk :: AVal.junk :: x16 :: AVal.junk :: AVal.junk :: AVal.junk :: []) h n := by
  intro i
  induction i with
  | zero =>
    intro x0 x16 hi ha
    have hc : ¬ (0 : Int) < ((0 : Nat) : Int) := by decide
    rw [run_loop]
    simp only [lp45_0, loopsOf, Try.f45, Option.getD_some, core1, fgr, execOp, opd, ofValue, putT, put, nth, forgetL, bor, binInt, shiftB, intOp, doPick, branch, List.getElem?_cons_succ, List.getElem?_cons_zero, List.nil_append, List.append_nil, Int.cast_ofNat_Int, Int.reduceLT, gt_iff_lt, decide_true, decide_false, List.getD_cons_zero]
    exact hq 0 _ _ (Nat.zero_le _) ⟨ha, .inl rfl⟩
  | succ i ih =>
    intro x0 x16 hi ha
    have hc : (0 : Int) < ((i + 1 : Nat) : Int) := by omega
    have hw : IntKind.i64.wrap (((i + 1 : Nat) : Int) - 1) = ((i : Nat) : Int) := by rw [w64 (by omega) (by omega)]; omega
    rw [run_loop]
    simp only [lp45_0, loopsOf, Try.f45, Option.getD_some, core1, execOp, opd, ofValue, putT, put, nth, bor, binInt, shiftB, intOp, wrapI, List.getElem?_cons_succ, List.getElem?_cons_zero, List.nil_append, List.append_nil, gt_iff_lt, decide_true, List.getD_cons_zero, hc, hw]
    rw [opv_rd (hv.idx0 t78 s3 rfl (show i < 256 by omega))]
    simp only [core1, execOp, opd, putT, put, nth, List.getElem?_cons_succ, List.getElem?_cons_zero]
    rw [opv_rd (hv.load0 ti3 rfl (show i < 256 by omega))]
    have hdiv : a / 2 ^ i < 2 := by
      rw [Nat.div_lt_iff_lt_mul (Nat.two_pow_pos _), Nat.mul_comm]
      rw [Nat.pow_succ] at ha
      exact ha
    rcases bit_lt a i with hb | hb
    · have h0 : a / 2 ^ i = 0 := by
        unfold bit at hb
        generalize a / 2 ^ i = q at hb hdiv ⊢
        omega
      simp only [core1, fgr, execOp, opd, ofValue, putT, put, nth, forgetL, bor, binInt, shiftB, intOp, wrapI, doPick, branch, List.getElem?_cons_succ, List.getElem?_cons_zero, decide_true, beq_self_eq_true, hb, hw]
      refine ih _ _ (by omega) ?_
      rcases Nat.lt_or_ge a (2 ^ i) with q | q
      · exact q
      · have := Nat.div_pos q (Nat.two_pow_pos i)
        omega
    · have h1 : 2 ^ i ≤ a := by
        rcases Nat.lt_or_ge a (2 ^ i) with q | q
        · have h0 : a / 2 ^ i = 0 := Nat.div_eq_of_lt q
          unfold bit at hb
          rw [h0] at hb
          simp at hb
        · exact q
      simp only [core1, fgr, execOp, opd, ofValue, putT, put, nth, forgetL, bor, binInt, shiftB, intOp, doPick, branch, List.getElem?_cons_succ, List.getElem?_cons_zero, int_beq, Int.reduceEq, decide_true, decide_false, hb]
      exact hq (i + 1) _ _ hi ⟨ha, .inr h1⟩
theorem f45 (a : Nat) (h : Hp) (n : Nat) (ha : a < b256) (hf : Free h n) : Wp (callI env (evalW env) 45 [W a]) h n fun v' h' n' => (∃ L : Nat, v' = .int .i64 (L : Nat) ∧ L ≤ 256 ∧ isLen a L) ∧ Old h h' n := by
  refine wp_callI ff45 fi45 ?_
  simp (disch := omega) only [fu45, Try.f45, Option.getD_some, List.replicate, core1, tyr, fgr, hkr, execOp, opd, opds, ofValue, putT, put, nth, forgetL, doCall, callV_func, readCells, cellsOf, aggB, cel, alloc, newRow, ended, resultOf, oneOrTup, rowK, List.cons_append, List.nil_append, List.append_nil, List.length_cons, List.length_nil, Nat.reduceAdd, Nat.reduceSub, true_and, Nat.zero_add, wp_pure, memr, List.take_succ_cons, List.take_zero, List.drop_zero, Nat.ble, Cont.size, Cont.sub, upd_same, Option.some.injEq, exists_eq_left', true_and, List.length_cons, List.length_nil, W]
  refine opv_callf hf.new (f44 a _ _) fun x h1 n1 hn1 hf1 ⟨bx, ix, ox⟩ => ?_
  obtain ⟨id, hid, _, hn⟩ := bx.nums
  simp only [core1, fgr, execOp, opd, ofValue, putT, put, nth, forgetL]
  refine loop45 _ _ a id n1 x _ _ h1 hn ?_ 256 _ _ (Nat.le_refl _) (by rw [← p256]; exact ha)
  intro L x0 x16 hL hl
  simp only [core1, fgr, execOp, opd, putT, put, nth, forgetL, true_and]
  exact ⟨⟨L, rfl, hL, hl⟩, ((Old.refl _ _).upd (Nat.le_refl _)).trans ox (by omega)⟩
theorem len_zero {a L : Nat} (hl : isLen a L) : L = 0 ↔ a = 0 := by
  obtain ⟨h1, h2⟩ := hl
  constructor
  · intro e; subst e; simpa using h1
  · intro e
    subst e
    rcases h2 with h2 | h2
    · exact h2
    · have := Nat.two_pow_pos (L - 1); omega
theorem f41 (a : Nat) (h : Hp) (n : Nat) (ha : a < b256) (hf : Free h n) : Wp (callI env (evalW env) 41 [W a]) h n fun v' h' n' => v' = .bool (decide (a = 0)) ∧ Old h h' n := by
  refine wp_callI ff41 fi41 ?_
  simp (disch := omega) only [fu41, Try.f41, Option.getD_some, List.replicate, core1, tyr, fgr, hkr, execOp, opd, opds, ofValue, putT, put, nth, forgetL, doCall, callV_func, readCells, cellsOf, aggB, cel, alloc, newRow, ended, resultOf, oneOrTup, rowK, List.cons_append, List.nil_append, List.append_nil, List.length_cons, List.length_nil, Nat.reduceAdd, Nat.reduceSub, true_and, Nat.zero_add, wp_pure, memr, List.take_succ_cons, List.take_zero, List.drop_zero, Nat.ble, Cont.size, Cont.sub, upd_same, Option.some.injEq, exists_eq_left', true_and, List.length_cons, List.length_nil, W]
  refine opv_callf hf.new (f45 a _ _ ha hf.new) fun x h1 n1 hn1 hf1 ⟨⟨L, e1, hL, hl⟩, o1⟩ => ?_
  subst e1
  simp only [core1, fgr, execOp, opd, ofValue, putT, put, nth, forgetL, bor, binInt, shiftB, intOp, int_beq, decide_true, true_and]
  refine ⟨?_, ((Old.refl _ _).upd (Nat.le_refl _)).trans o1 (by omega)⟩
  have hz := len_zero hl
  by_cases e : a = 0
  · rw [decide_eq_true e, decide_eq_true (by have := hz.2 e; omega)]
  · rw [decide_eq_false e, decide_eq_false (fun q => e (hz.1 (by omega)))]
/- Moved, compared, the other way round: the document's. -/
theorem bit_left (a m j : Nat) : bit (a * 2 ^ m) j = if j < m then 0 else bit a (j - m) := by
  unfold bit
  by_cases h : j < m
  · rw [if_pos h, show m = j + (m - j) by omega, mul_div_pow, show m - j = (m - j - 1) + 1 by omega, Nat.pow_succ, ← Nat.mul_assoc, Nat.mul_mod_left]; rfl
  · rw [if_neg h]
    have : a * 2 ^ m / 2 ^ j = a / 2 ^ (j - m) := by
      rw [show j = m + (j - m) by omega, Nat.pow_add, Nat.mul_comm a, Nat.mul_div_mul_left _ _ (Nat.two_pow_pos _), Nat.add_sub_cancel_left]
    rw [this]
theorem loop46 (Q : Post0) (ks : List Kf) (a m id io n : Nat) (v o y2 y4 : AVal) (d1 : id ≠ io) (h0 : Hp)
    (hq : ∀ (h : Hp) (x0 x1 x2 x5 x7 x9 x16 : AVal), Nums .i64 h o io 0 256 256 (bit (a * 2 ^ m)) → (∀ j, j ≠ io → h j = h0 j) → Kont env 46 none Q ks (.exit 0) (x0 :: x1 :: x2 :: AVal.junk :: y4 :: x5 :: o :: x7 :: AVal.junk :: x9 :: AVal.junk :: AVal.junk :: AVal.junk :: AVal.junk :: AVal.junk :: AVal.junk :: x16 :: AVal.junk :: AVal.junk :: AVal.junk :: AVal.junk :: AVal.junk :: AVal.junk :: AVal.junk :: AVal.junk :: AVal.junk :: AVal.junk :: AVal.junk :: AVal.junk :: AVal.junk :: []) h n) :
    ∀ (i : Nat) (h : Hp) (x0 x2 x9 x16 : AVal), i ≤ 256 → Nums .i64 h v id 0 256 256 (bit a) → Nums .i64 h o io 0 256 256 (fun j => if i ≤ j then bit (a * 2 ^ m) j else 0) → (∀ j, j ≠ io → h j = h0 j) →
    Run env 46 none Q (.loop lp46_0) ks (x0 :: .int .i64 (m : Nat) :: x2 :: AVal.junk :: y4 :: v :: o :: .int .i64 (((i : Nat) : Int) - 1) :: AVal.junk :: x9 :: AVal.junk :: AVal.junk :: AVal.junk :: AVal.junk :: AVal.junk :: AVal.junk :: x16 :: AVal.junk :: AVal.junk :: AVal.junk :: AVal.junk :: AVal.junk :: AVal.junk :: AVal.junk :: AVal.junk :: AVal.junk :: AVal.junk :: AVal.junk :: AVal.junk :: AVal.junk :: []) h n := by
  intro i
  induction i with
  | zero =>
    intro h x0 x2 x9 x16 hi hv ho hk
    have hc : ¬ ((m : Nat) : Int) ≤ -1 := by omega
    rw [run_loop]
    simp only [lp46_0, loopsOf, Try.f46, Option.getD_some, core1, fgr, execOp, opd, putT, put, nth, forgetL, bor, binInt, shiftB, intOp, List.nil_append, List.append_nil, Int.cast_ofNat_Int, Int.reduceSub, Int.reduceNeg, ge_iff_le, decide_true, decide_false, List.getD_cons_zero, hc]
    exact hq h _ _ _ _ _ _ _ (ho.ext fun j hj => if_pos (Nat.zero_le _)) hk
  | succ i ih =>
    intro h x0 x2 x9 x16 hi hv ho hk
    have hs : ((i + 1 : Nat) : Int) - 1 = ((i : Nat) : Int) := by omega
    by_cases hmi : m ≤ i
    · have hc : ((m : Nat) : Int) ≤ ((i : Nat) : Int) := by omega
      have hw : IntKind.i64.wrap (((i : Nat) : Int) - 1) = ((i : Nat) : Int) - 1 := w64 (by omega) (by omega)
      have hw2 : IntKind.i64.wrap (((i : Nat) : Int) - ((m : Nat) : Int)) = ((i - m : Nat) : Int) := by rw [w64 (by omega) (by omega)]; omega
      rw [run_loop]
      simp only [lp46_0, loopsOf, Try.f46, Option.getD_some, core1, fgr, execOp, opd, putT, put, nth, forgetL, bor, binInt, shiftB, intOp, wrapI, List.nil_append, List.append_nil, ge_iff_le, decide_true, List.getD_cons_zero, hs, hc, hw2]
      rw [opv_rd (hv.idx0 t78 s3 rfl (show i - m < 256 by omega))]
      simp only [core1, execOp, opd, putT, put, nth]
      rw [opv_rd (hv.load0 ti3 rfl (show i - m < 256 by omega))]
      simp only [core1, execOp, opd, putT, put, nth]
      rw [opv_rd (ho.idx0 t78 s3 rfl (show i < 256 by omega))]
      simp only [core1, execOp, opd, putT, put, nth]
      refine ho.store0 ti3 rfl (show i < 256 by omega) fun b hb => ?_
      simp only [core1, fgr, execOp, opd, ofValue, putT, put, nth, forgetL, bor, binInt, shiftB, intOp, wrapI, decide_true, hw]
      refine ih _ _ _ _ _ (by omega) (hv.upd d1) (hb.ext fun j hj => ?_) (fun j hj => by rw [upd_ne _ _ hj]; exact hk j hj)
      by_cases e : j = i
      · simp only [if_pos e, if_pos (show i ≤ j by omega)]
        rw [bit_left, if_neg (by omega), e]
      · by_cases e2 : i + 1 ≤ j
        · simp only [if_neg e, if_pos e2, if_pos (show i ≤ j by omega)]
        · simp only [if_neg e, if_neg e2, if_neg (show ¬ i ≤ j by omega)]
    · have hc : ¬ ((m : Nat) : Int) ≤ ((i : Nat) : Int) := by omega
      rw [run_loop]
      simp only [lp46_0, loopsOf, Try.f46, Option.getD_some, core1, fgr, execOp, opd, putT, put, nth, forgetL, bor, binInt, shiftB, intOp, List.nil_append, List.append_nil, ge_iff_le, decide_true, decide_false, List.getD_cons_zero, hs, hc]
      refine hq h _ _ _ _ _ _ _ (ho.ext fun j hj => ?_) hk
      by_cases e2 : i + 1 ≤ j
      · rw [if_pos e2]
      · rw [if_neg e2, bit_left, if_pos (by omega)]
theorem f46 (a : Nat) (z : Int) (h : Hp) (n : Nat) (ha : a < b256) (hz : z ≤ 1000) (hf : Free h n) : Wp (callI env (evalW env) 46 [W a, .int .i64 z]) h n fun v' h' n' => v' = W (leftV a z) ∧ Old h h' n := by
  refine wp_callI ff46 fi46 ?_
  by_cases h0 : z ≤ 0
  · have e : leftV a z = a := if_pos h0
    simp (disch := omega) only [fu46, Try.f46, Option.getD_some, List.replicate, core1, tyr, fgr, execOp, opd, ofValue, putT, put, nth, forgetL, zeroOf, bor, binInt, shiftB, intOp, readCells, cellsOf, aggB, cel, alloc, doAlloc, newRow, ended, resultOf, oneOrTup, rowK, List.cons_append, List.nil_append, List.length_cons, List.length_nil, Nat.reduceAdd, Nat.reduceSub, not_false_eq_true, decide_true, Bool.and_true, true_and, Nat.zero_add, wp_pure, reduceCtorEq, memr, List.take_succ_cons, List.take_zero, List.drop_zero, Nat.ble, writeCells, setAll, Cont.size, Cont.set, Cont.sub, upd_same, upd_ne, List.all_cons, List.all_nil, Option.some.injEq, exists_eq_left', ne_eq, true_and, List.length_cons, List.length_nil, W, h0, wp_get, wp_ob]
    rw [e]
    exact ⟨by trivial, fun j hj => by simp (disch := omega) only [upd_ne]⟩
  · obtain ⟨m, rfl⟩ := Int.eq_ofNat_of_zero_le (show 0 ≤ z by omega)
    have e : leftV a (m : Int) = a * 2 ^ m % b256 := by unfold leftV; rw [if_neg h0, Int.toNat_natCast]
    have h0' : ¬ ((m : Nat) : Int) ≤ 0 := h0
    rw [e]
    simp (disch := omega) only [fu46, Try.f46, Option.getD_some, List.replicate, core1, tyr, fgr, hkr, execOp, opd, opds, ofValue, putT, put, nth, forgetL, doCall, callV_func, zeroOf, bor, binInt, shiftB, intOp, readCells, cellsOf, aggB, cel, alloc, doAlloc, newRow, ended, resultOf, oneOrTup, rowK, List.cons_append, List.nil_append, List.append_nil, List.length_cons, List.length_nil, Nat.reduceAdd, Nat.reduceSub, decide_true, decide_false, true_and, Nat.zero_add, memr, List.take_succ_cons, List.take_zero, List.drop_zero, Nat.ble, Cont.size, Cont.sub, upd_same, upd_ne, Option.some.injEq, exists_eq_left', true_and, List.length_cons, List.length_nil, W, h0']
    refine opv_callf (hf.new).new (f44 a _ _) fun x h1 n1 hn1 hf1 ⟨bx, ix, ox⟩ => ?_
    obtain ⟨id, hid, _, hn⟩ := bx.nums
    simp only [core1, fgr, execOp, opd, ofValue, putT, put, nth, forgetL]
    refine nums_make (m := 256) rfl t78 ti3 rfl rfl (by decide) (by decide) fun ho => ?_
    simp only [core1, fgr, execOp, opd, ofValue, putT, put, nth, forgetL]
    have h4 : Arr .u64 h1 (n + 1) 4 (fun _ => 0) := arr_0 ((ox _ (by omega)).trans (upd_same _ _ _))
    refine loop46 _ _ a m id n1 (n1 + 1) x _ x _ (by omega) _ ?_ 256 _ _ _ _ _ (Nat.le_refl _) (hn.upd (by omega)) (ho.ext fun j hj => by rw [if_neg (by omega)]) (fun _ _ => rfl)
    intro h2 x0 x1 x2 x5 x7 x9 x16 hv hk
    simp only [core1, hkr, execOp, opd, opds, putT, put, nth, doCall, callV_func, List.nil_append, List.append_nil]
    refine opv_call (f65 _ (a * 2 ^ m) n1 0 256 _ (fun j hj => by rw [Nat.zero_add]) h2 (n1 + 1) (by omega) hv) fun v4 h3 n4 hn4 ⟨e4, o4⟩ => ?_
    subst e4
    have k4 : Arr .u64 h3 (n + 1) 4 (fun _ => 0) := h4.keep ((o4 _ (by omega)).trans ((hk _ (by omega)).trans (upd_ne _ _ (by omega))))
    simp only [core1, execOp, opd, putT, put, nth, W]
    refine opv_all4 k4 ti25 rfl fun bb hbb => ?_
    simp only [core1, fgr, putT, nth, forgetL, true_and, wp_pure, wp_rd (hbb.all ti25 rfl rfl), range4, pick4]
    intro j hj
    rw [upd_ne _ _ (by omega), o4 j (by omega), hk j (by omega), upd_ne _ _ (by omega), ox j (by omega)]
    simp (disch := omega) only [upd_ne]
/- Compared, the other way round: the document's. -/
def cmpV (a b : Nat) : Int := if a = b then 0 else if a < b then -1 else 1
theorem half_bit (a i : Nat) : a / 2 ^ i = 2 * (a / 2 ^ (i + 1)) + a / 2 ^ i % 2 := half_step a i
theorem loop48 (Q : Post0) (ks : List Kf) (a b ix iy n : Nat) (x y : AVal) (h : Hp) (hx : Nums .i64 h x ix 0 256 256 (bit a)) (hy : Nums .i64 h y iy 0 256 256 (bit b))
    (hE : a = b → ∀ (x0 x1 x2 x3 x5 x6 x7 x13 x24 x33 : AVal), Kont env 48 none Q ks (.exit 0) (x0 :: x1 :: x2 :: x3 :: .int .i64 0 :: x5 :: x6 :: x7 :: AVal.junk :: AVal.junk :: AVal.junk :: AVal.junk :: AVal.junk :: x13 :: AVal.junk :: AVal.junk :: AVal.junk :: AVal.junk :: AVal.junk :: AVal.junk :: AVal.junk :: AVal.junk :: AVal.junk :: AVal.junk :: x24 :: AVal.junk :: AVal.junk :: AVal.junk :: AVal.junk :: AVal.junk :: AVal.junk :: AVal.junk :: AVal.junk :: x33 :: []) h n)
    (hR : ¬ a = b → ∀ (x0 x1 x2 x3 x5 x6 x7 x13 x24 x33 : AVal), Kont env 48 none Q ks .ret (x0 :: x1 :: x2 :: x3 :: .int .i64 (cmpV a b) :: x5 :: x6 :: x7 :: AVal.junk :: AVal.junk :: AVal.junk :: AVal.junk :: AVal.junk :: x13 :: AVal.junk :: AVal.junk :: AVal.junk :: AVal.junk :: AVal.junk :: AVal.junk :: AVal.junk :: AVal.junk :: AVal.junk :: AVal.junk :: x24 :: AVal.junk :: AVal.junk :: AVal.junk :: AVal.junk :: AVal.junk :: AVal.junk :: AVal.junk :: AVal.junk :: x33 :: []) h n) :
    ∀ (i : Nat) (x0 x1 x2 x3 x13 x24 x33 : AVal), i ≤ 256 → a / 2 ^ i = b / 2 ^ i →
    Run env 48 none Q (.loop lp48_0) ks (x0 :: x1 :: x2 :: x3 :: .int .i64 0 :: x :: y :: .int .i64 (((i : Nat) : Int) - 1) :: AVal.junk :: AVal.junk :: AVal.junk :: AVal.junk :: AVal.junk :: x13 :: AVal.junk :: AVal.junk :: AVal.junk :: AVal.junk :: AVal.junk :: AVal.junk :: AVal.junk :: AVal.junk :: AVal.junk :: AVal.junk :: x24 :: AVal.junk :: AVal.junk :: AVal.junk :: AVal.junk :: AVal.junk :: AVal.junk :: AVal.junk :: AVal.junk :: x33 :: []) h n := by
  intro i
  induction i with
  | zero =>
    intro x0 x1 x2 x3 x13 x24 x33 hi he
    have hc : ¬ (0 : Int) ≤ -1 := by decide
    rw [run_loop]
    simp only [lp48_0, loopsOf, Try.f48, Option.getD_some, core1, fgr, execOp, opd, ofValue, putT, put, nth, forgetL, bor, binInt, shiftB, intOp, List.nil_append, List.append_nil, Int.cast_ofNat_Int, Int.reduceSub, Int.reduceNeg, ge_iff_le, decide_true, decide_false, List.getD_cons_zero, hc]
    exact hE (by simpa using he) _ _ _ _ _ _ _ _ _ _
  | succ i ih =>
    intro x0 x1 x2 x3 x13 x24 x33 hi he
    have hs : ((i + 1 : Nat) : Int) - 1 = ((i : Nat) : Int) := by omega
    have hc : (0 : Int) ≤ ((i : Nat) : Int) := by omega
    have h4 : i < 256 := by omega
    have hw : IntKind.i64.wrap (((i : Nat) : Int) - 1) = ((i : Nat) : Int) - 1 := w64 (by omega) (by omega)
    have ea := half_bit a i
    have eb := half_bit b i
    have hlt : ∀ p q : Nat, p / 2 ^ i < q / 2 ^ i → p < q := fun p q hpq => by
      rcases Nat.lt_or_ge p q with r | r
      · exact r
      · have := Nat.div_le_div_right (c := 2 ^ i) r
        omega
    have da : bit a i = ((a / 2 ^ i % 2 : Nat) : Int) := rfl
    have db : bit b i = ((b / 2 ^ i % 2 : Nat) : Int) := rfl
    rw [run_loop]
    simp only [lp48_0, loopsOf, Try.f48, Option.getD_some, core1, fgr, execOp, opd, ofValue, putT, put, nth, forgetL, bor, binInt, shiftB, intOp, List.nil_append, List.append_nil, Int.reduceNeg, ge_iff_le, decide_true, List.getD_cons_zero, hs, hc]
    refine run_draw.2 ⟨rfl, ?_⟩
    simp only [fe_cons, fev_pure, execOp, opd, putT, put, nth, Nat.reduceAdd, Int.reduceNeg, Nat.zero_add]
    rw [fev_rd (hx.idx0 t78 s3 rfl h4)]
    simp only [fe_cons, execOp, opd, putT, put, nth, Nat.reduceAdd, Int.reduceNeg]
    rw [fev_rd (hx.load0 ti3 rfl h4)]
    simp only [fe_cons, fev_pure, execOp, opd, putT, put, nth, Nat.reduceAdd, Int.reduceNeg]
    rw [fev_rd (hy.idx0 t78 s3 rfl h4)]
    simp only [fe_cons, execOp, opd, putT, put, nth, Nat.reduceAdd, Int.reduceNeg]
    rw [fev_rd (hy.load0 ti3 rfl h4)]
    simp only [fe_nil, fe_cons, fev_pure, core1, fgr, execOp, opd, putT, put, nth, forgetL, bor, binInt, shiftB, intOp, Nat.reduceAdd, Int.reduceNeg, decide_true]
    refine ⟨(by (try simp (disch := omega) only [fine, List.all_cons, List.all_nil, clash_pr, clash_rr, Bool.not_false, Bool.true_or, Bool.and_true]); repeat' (first | rfl | exact (Bool.or_eq_true _ _).mpr (.inr rfl) | refine (Bool.and_eq_true _ _).mpr ⟨?_, ?_⟩)), ?_⟩
    by_cases c1 : bit a i < bit b i
    · have hab : a < b := hlt a b (by
        rw [da, db] at c1
        generalize a / 2 ^ i = p at *
        generalize b / 2 ^ i = q at *
        omega)
      have hcm : cmpV a b = -1 := by unfold cmpV; rw [if_neg (by omega), if_pos hab]
      simp only [core1, fgr, execOp, opd, ofValue, putT, put, forgetL, Int.reduceNeg, decide_true, c1]
      rw [← hcm]
      exact hR (by omega) _ _ _ _ _ _ _ _ _ _
    · simp only [core1, Int.reduceNeg, decide_false, c1]
      refine run_draw.2 ⟨rfl, ?_⟩
      simp only [fe_cons, fev_pure, execOp, opd, putT, put, nth, Nat.reduceAdd, Int.reduceNeg, Nat.zero_add]
      rw [fev_rd (hx.idx0 t78 s3 rfl h4)]
      simp only [fe_cons, execOp, opd, putT, put, nth, Nat.reduceAdd, Int.reduceNeg]
      rw [fev_rd (hx.load0 ti3 rfl h4)]
      simp only [fe_cons, fev_pure, execOp, opd, putT, put, nth, Nat.reduceAdd, Int.reduceNeg]
      rw [fev_rd (hy.idx0 t78 s3 rfl h4)]
      simp only [fe_cons, execOp, opd, putT, put, nth, Nat.reduceAdd, Int.reduceNeg]
      rw [fev_rd (hy.load0 ti3 rfl h4)]
      simp only [fe_nil, fe_cons, fev_pure, core1, fgr, execOp, opd, putT, put, nth, forgetL, bor, binInt, shiftB, intOp, Nat.reduceAdd, Int.reduceNeg, gt_iff_lt, decide_true]
      refine ⟨(by (try simp (disch := omega) only [fine, List.all_cons, List.all_nil, clash_pr, clash_rr, Bool.not_false, Bool.true_or, Bool.and_true]); repeat' (first | rfl | exact (Bool.or_eq_true _ _).mpr (.inr rfl) | refine (Bool.and_eq_true _ _).mpr ⟨?_, ?_⟩)), ?_⟩
      by_cases c2 : bit b i < bit a i
      · have hab : b < a := hlt b a (by
          rw [da, db] at c2
          generalize a / 2 ^ i = p at *
          generalize b / 2 ^ i = q at *
          omega)
        have hcm : cmpV a b = 1 := by unfold cmpV; rw [if_neg (by omega), if_neg (by omega)]
        simp only [core1, fgr, execOp, opd, ofValue, putT, put, forgetL, Int.reduceNeg, decide_true, c2]
        rw [← hcm]
        exact hR (by omega) _ _ _ _ _ _ _ _ _ _
      · simp only [core1, fgr, execOp, opd, ofValue, putT, put, nth, forgetL, bor, binInt, shiftB, intOp, wrapI, Int.reduceNeg, decide_true, decide_false, c2, hw]
        refine ih _ _ _ _ _ _ _ (by omega) ?_
        rw [da, db] at c1 c2
        generalize a / 2 ^ i = p at *
        generalize b / 2 ^ i = q at *
        omega
theorem f48 (a b : Nat) (h : Hp) (n : Nat) (ha : a < b256) (hb : b < b256) (hf : Free h n) : Wp (callI env (evalW env) 48 [W a, W b]) h n fun v' h' n' => v' = .int .i64 (cmpV a b) ∧ Old h h' n := by
  refine wp_callI ff48 fi48 ?_
  have hw : ∀ c, W c = .agg [.int .u64 (wd c 0 : Nat), .int .u64 (wd c 1 : Nat), .int .u64 (wd c 2 : Nat), .int .u64 (wd c 3 : Nat)] := fun _ => rfl
  rw [hw a, hw b]
  simp (disch := omega) only [fu48, Try.f48, Option.getD_some, List.replicate, core1, tyr, fgr, hkr, execOp, opd, opds, ofValue, putT, put, nth, forgetL, doCall, callV_func, readCells, cellsOf, aggB, cel, alloc, newRow, ended, resultOf, oneOrTup, rowK, List.cons_append, List.nil_append, List.append_nil, List.length_cons, List.length_nil, Nat.reduceAdd, Nat.reduceSub, Int.reduceNeg, true_and, Nat.zero_add, wp_pure, memr, List.take_succ_cons, List.take_zero, List.drop_zero, Nat.ble, Cont.size, Cont.sub, upd_same, upd_ne, Option.some.injEq, exists_eq_left', true_and, List.length_cons, List.length_nil]
  have g3 : ∀ x, Arr .u64 (upd (upd h n x) (n + 1) (some (Blk.row (Cont.l [AVal.int IntKind.u64 (wd b 0 : Nat), AVal.int IntKind.u64 (wd b 1 : Nat), AVal.int IntKind.u64 (wd b 2 : Nat), AVal.int IntKind.u64 (wd b 3 : Nat)]) 25))) (n + 1) 4 (fun j => (wd b j : Nat)) := fun x => arr_W (upd_same _ _ _)
  refine opv_callf (hf.new).new (f44 a _ _) fun x h1 n1 hn1 hf1 ⟨bx, ix, ox⟩ => ?_
  have g3 := (g3 _).keep (ox _ (by omega))
  simp only [core1, fgr, execOp, opd, putT, put, nth, forgetL, Int.reduceNeg]
  rw [opv_rd (g3.all ti25 rfl rfl), range4]
  simp only [core1, hkr, execOp, opd, opds, putT, put, nth, doCall, callV_func, List.nil_append, List.append_nil, Int.reduceNeg]
  refine opv_callf hf1 (f44 b _ _) fun y h2 n2 hn2 hf2 ⟨by_, iy, oy⟩ => ?_
  obtain ⟨id, hid, _, hnx⟩ := (bx.old oy hn2).nums
  obtain ⟨id2, hid2, _, hny⟩ := by_.nums
  have o2 : Old h h2 n := fun j hj => by rw [oy j (by omega), ox j (by omega)]; simp (disch := omega) only [upd_ne]
  simp only [core1, fgr, execOp, opd, ofValue, putT, put, nth, forgetL, Int.reduceNeg]
  refine loop48 _ _ a b id id2 n2 x y h2 hnx hny ?_ ?_ 256 _ _ _ _ _ _ _ (Nat.le_refl _) (by rw [← p256, Nat.div_eq_of_lt ha, Nat.div_eq_of_lt hb])
  · intro e x0 x1 x2 x3 x5 x6 x7 x13 x24 x33
    simp only [core1, fgr, execOp, opd, ofValue, putT, put, nth, forgetL, true_and]
    exact ⟨by unfold cmpV; rw [if_pos e], o2⟩
  · intro e x0 x1 x2 x3 x5 x6 x7 x13 x24 x33
    simp only [core1, nth, true_and]
    exact o2
/- Products: the document's. -/
theorem loop42b (Q : Post0) (ks : List Kf) (b i iy ip n : Nat) (x y s p y4 y5 : AVal) (hi : i < 256) (d1 : iy ≠ ip) (h0 : Hp)
    (hq : ∀ (h : Hp) (x0 x1 x2 x3 x11 x18 x25 x28 : AVal), Nums .i64 h p ip 0 512 512 (fun j => if i ≤ j ∧ j < i + 256 then bit b (j - i) else 0) → (∀ j, j ≠ ip → h j = h0 j) → Kont env 42 none Q ks (.exit 2) (x0 :: x1 :: x2 :: x3 :: y4 :: y5 :: x :: y :: s :: .int .i64 (i : Nat) :: p :: x11 :: AVal.junk :: AVal.junk :: AVal.junk :: AVal.junk :: AVal.junk :: AVal.junk :: x18 :: AVal.junk :: AVal.junk :: AVal.junk :: AVal.junk :: AVal.junk :: AVal.junk :: x25 :: AVal.junk :: AVal.junk :: x28 :: AVal.junk :: AVal.junk :: AVal.junk :: AVal.junk :: AVal.junk :: AVal.junk :: AVal.junk :: AVal.junk :: AVal.junk :: AVal.junk :: AVal.junk :: AVal.junk :: AVal.junk :: AVal.junk :: AVal.junk :: AVal.junk :: AVal.junk :: AVal.junk :: AVal.junk :: AVal.junk :: AVal.junk :: AVal.junk :: AVal.junk :: []) h n) :
    ∀ (k' k : Nat) (h : Hp) (x0 x1 x2 x3 x18 x25 x28 : AVal), k + k' = 256 → Nums .i64 h y iy 0 256 256 (bit b) → Nums .i64 h p ip 0 512 512 (fun j => if i ≤ j ∧ j < i + k then bit b (j - i) else 0) → (∀ j, j ≠ ip → h j = h0 j) →
    Run env 42 none Q (.loop lp42_1) ks (x0 :: x1 :: x2 :: x3 :: y4 :: y5 :: x :: y :: s :: .int .i64 (i : Nat) :: p :: .int .i64 (k : Nat) :: AVal.junk :: AVal.junk :: AVal.junk :: AVal.junk :: AVal.junk :: AVal.junk :: x18 :: AVal.junk :: AVal.junk :: AVal.junk :: AVal.junk :: AVal.junk :: AVal.junk :: x25 :: AVal.junk :: AVal.junk :: x28 :: AVal.junk :: AVal.junk :: AVal.junk :: AVal.junk :: AVal.junk :: AVal.junk :: AVal.junk :: AVal.junk :: AVal.junk :: AVal.junk :: AVal.junk :: AVal.junk :: AVal.junk :: AVal.junk :: AVal.junk :: AVal.junk :: AVal.junk :: AVal.junk :: AVal.junk :: AVal.junk :: AVal.junk :: AVal.junk :: AVal.junk :: []) h n := by
  intro k'
  induction k' with
  | zero =>
    intro k h x0 x1 x2 x3 x18 x25 x28 hk hy hp hh
    have : k = 256 := by omega
    subst this
    have hc : ¬ ((256 : Nat) : Int) < 256 := by decide
    rw [run_loop]
    simp only [lp42_1, loopsOf, Try.f42, Option.getD_some, core1, fgr, execOp, opd, ofValue, putT, put, nth, forgetL, bor, binInt, shiftB, intOp, List.nil_append, List.append_nil, Int.cast_ofNat_Int, Int.reduceLT, decide_true, decide_false, List.getD_cons_zero, List.getD_cons_succ]
    exact hq h _ _ _ _ _ _ _ _ hp hh
  | succ k' ih =>
    intro k h x0 x1 x2 x3 x18 x25 x28 hk hy hp hh
    have h4 : k < 256 := by omega
    have h5 : i + k < 512 := by omega
    have hc : ((k : Nat) : Int) < 256 := by omega
    have hw : IntKind.i64.wrap (((k : Nat) : Int) + 1) = ((k + 1 : Nat) : Int) := by rw [w64 (by omega) (by omega)]; omega
    have hw2 : IntKind.i64.wrap (((i : Nat) : Int) + ((k : Nat) : Int)) = ((i + k : Nat) : Int) := by rw [w64 (by omega) (by omega)]; omega
    rw [run_loop]
    simp only [lp42_1, loopsOf, Try.f42, Option.getD_some, core1, fgr, execOp, opd, ofValue, putT, put, nth, forgetL, bor, binInt, shiftB, intOp, wrapI, List.nil_append, List.append_nil, decide_true, List.getD_cons_zero, List.getD_cons_succ, hc, hw2]
    rw [opv_rd (hy.idx0 t78 s3 rfl h4)]
    simp only [core1, execOp, opd, putT, put, nth]
    rw [opv_rd (hy.load0 ti3 rfl h4)]
    simp only [core1, execOp, opd, putT, put, nth]
    rw [opv_rd (hp.idx0 t78 s3 rfl h5)]
    simp only [core1, execOp, opd, putT, put, nth]
    refine hp.store0 ti3 rfl h5 fun bb hb => ?_
    simp only [core1, fgr, execOp, opd, ofValue, putT, put, nth, forgetL, bor, binInt, shiftB, intOp, wrapI, decide_true, hw]
    refine ih (k + 1) _ _ _ _ _ _ _ _ (by omega) (hy.upd d1) (hb.ext fun j hj => ?_) (fun j hj => by rw [upd_ne _ _ hj]; exact hh j hj)
    by_cases e : j = i + k
    · subst e
      simp only [↓reduceIte]
      rw [if_pos (by omega), Nat.add_sub_cancel_left]
    · simp only [if_neg e]
      by_cases e2 : i ≤ j ∧ j < i + k
      · rw [if_pos e2, if_pos (by omega)]
      · rw [if_neg e2, if_neg (by omega)]
theorem part_bits {b i : Nat} (hb : b < b256) (j : Nat) : (if i ≤ j ∧ j < i + 256 then bit b (j - i) else 0) = bit (b * 2 ^ i) j := by
  rw [bit_left]
  by_cases h1 : j < i
  · rw [if_pos h1, if_neg (by omega)]
  · rw [if_neg h1]
    by_cases h2 : j < i + 256
    · rw [if_pos (by omega)]
    · rw [if_neg (by omega)]
      unfold bit
      rw [Nat.div_eq_of_lt (Nat.lt_of_lt_of_le hb (show b256 ≤ 2 ^ (j - i) from Nat.le_trans (show b256 ≤ 2 ^ 256 by decide) (Nat.pow_le_pow_right (by decide) (by omega))))]; rfl
theorem loop42a (Q : Post0) (ks : List Kf) (a b N : Nat) (x y y4 y5 : AVal) (hb : b < b256) (h0 : Hp)
    (hq : ∀ (h : Hp) (n : Nat) (s : AVal) (x0 x1 x2 x3 x6 x7 x9 x10 x11 x18 x25 x28 : AVal), Bt h n s (a % 2 ^ 256 * b) 512 → (∀ j, ownId s = some j → N ≤ j) → N ≤ n → Free h n → Old h0 h N → Kont env 42 none Q ks (.exit 0) (x0 :: x1 :: x2 :: x3 :: y4 :: y5 :: x6 :: x7 :: s :: x9 :: x10 :: x11 :: AVal.junk :: AVal.junk :: AVal.junk :: AVal.junk :: AVal.junk :: AVal.junk :: x18 :: AVal.junk :: AVal.junk :: AVal.junk :: AVal.junk :: AVal.junk :: AVal.junk :: x25 :: AVal.junk :: AVal.junk :: x28 :: AVal.junk :: AVal.junk :: AVal.junk :: AVal.junk :: AVal.junk :: AVal.junk :: AVal.junk :: AVal.junk :: AVal.junk :: AVal.junk :: AVal.junk :: AVal.junk :: AVal.junk :: AVal.junk :: AVal.junk :: AVal.junk :: AVal.junk :: AVal.junk :: AVal.junk :: AVal.junk :: AVal.junk :: AVal.junk :: AVal.junk :: []) h n) :
    ∀ (k i : Nat) (h : Hp) (n : Nat) (s : AVal) (x0 x1 x2 x3 x10 x11 x18 x25 x28 : AVal), i + k = 256 → Bt h n x a 256 → Bt h n y b 256 → Bt h n s (a % 2 ^ i * b) 512 → (∀ j, ownId s = some j → N ≤ j) → N ≤ n → Free h n → Old h0 h N →
    Run env 42 none Q (.loop lp42_0) ks (x0 :: x1 :: x2 :: x3 :: y4 :: y5 :: x :: y :: s :: .int .i64 (i : Nat) :: x10 :: x11 :: AVal.junk :: AVal.junk :: AVal.junk :: AVal.junk :: AVal.junk :: AVal.junk :: x18 :: AVal.junk :: AVal.junk :: AVal.junk :: AVal.junk :: AVal.junk :: AVal.junk :: x25 :: AVal.junk :: AVal.junk :: x28 :: AVal.junk :: AVal.junk :: AVal.junk :: AVal.junk :: AVal.junk :: AVal.junk :: AVal.junk :: AVal.junk :: AVal.junk :: AVal.junk :: AVal.junk :: AVal.junk :: AVal.junk :: AVal.junk :: AVal.junk :: AVal.junk :: AVal.junk :: AVal.junk :: AVal.junk :: AVal.junk :: AVal.junk :: AVal.junk :: AVal.junk :: []) h n := by
  intro k
  induction k with
  | zero =>
    intro i h n s x0 x1 x2 x3 x10 x11 x18 x25 x28 hi hx hy hs hid hN hf ho
    have : i = 256 := by omega
    subst this
    have hc : ¬ ((256 : Nat) : Int) < 256 := by decide
    rw [run_loop]
    simp only [lp42_0, loopsOf, Try.f42, Option.getD_some, core1, fgr, execOp, opd, ofValue, putT, put, nth, forgetL, bor, binInt, shiftB, intOp, List.nil_append, List.append_nil, Int.cast_ofNat_Int, Int.reduceLT, decide_true, decide_false, List.getD_cons_zero]
    exact hq h n s _ _ _ _ _ _ _ _ _ _ _ _ hs hid hN hf ho
  | succ k ih =>
    intro i h n s x0 x1 x2 x3 x10 x11 x18 x25 x28 hi hx hy hs hid hN hf ho
    have h4 : i < 256 := by omega
    have hc : ((i : Nat) : Int) < 256 := by omega
    have hw : IntKind.i64.wrap (((i : Nat) : Int) + 1) = ((i + 1 : Nat) : Int) := by rw [w64 (by omega) (by omega)]; omega
    obtain ⟨ix, bx, _, nx⟩ := hx.nums
    have hms := mod_succ_bit a i
    rw [run_loop]
    simp only [lp42_0, loopsOf, Try.f42, Option.getD_some, core1, fgr, execOp, opd, ofValue, putT, put, nth, forgetL, bor, binInt, shiftB, intOp, List.nil_append, List.append_nil, decide_true, List.getD_cons_zero, hc]
    rw [opv_rd (nx.idx0 t78 s3 rfl h4)]
    simp only [core1, execOp, opd, putT, put, nth]
    rw [opv_rd (nx.load0 ti3 rfl h4)]
    rcases bit_lt a i with hbit | hbit
    · have hb' : a / 2 ^ i % 2 = 0 := by unfold bit at hbit; omega
      simp only [core1, fgr, execOp, opd, ofValue, putT, put, nth, forgetL, bor, binInt, shiftB, intOp, wrapI, decide_true, beq_self_eq_true, hbit, hw]
      refine ih (i + 1) h n s _ _ _ _ _ _ _ _ _ (by omega) hx hy (by rw [hms, hb', Nat.mul_zero, Nat.add_zero]; exact hs) hid hN hf ho
    · have hb' : a / 2 ^ i % 2 = 1 := by unfold bit at hbit; omega
      obtain ⟨iy, byy, _, ny⟩ := hy.nums
      simp only [core1, fgr, execOp, opd, ofValue, putT, put, nth, forgetL, bor, binInt, shiftB, intOp, int_beq, Int.reduceEq, decide_true, decide_false, hbit]
      refine nums_make (m := 512) rfl t78 ti3 rfl rfl (by decide) (by decide) fun hp => ?_
      simp only [core1, fgr, execOp, opd, ofValue, putT, put, nth, forgetL]
      refine loop42b _ _ b i iy n (n + 1) x y s _ _ _ h4 (by omega) _ ?_ 256 0 _ _ _ _ _ _ _ _ rfl (ny.upd (by omega)) (hp.ext fun j hj => by rw [if_neg (by omega)]) (fun _ _ => rfl)
      intro h1 x0 x1 x2 x3 x11 x18 x25 x28 hp1 hk1
      have o1 : Old h h1 n := fun j hj => by rw [hk1 j (by omega), upd_ne _ _ (by omega)]
      have f1 : Free h1 (n + 1) := fun j hj => by rw [hk1 j (by omega), upd_ne _ _ (by omega)]; exact hf j (by omega)
      have bp : Bt h1 (n + 1) (.sl n 0 512 (some 512) 1) (b * 2 ^ i) 512 := by
        obtain ⟨_, _, e, he⟩ := hp1.ext fun j hj => part_bits hb j
        exact ⟨n, by omega, rfl, e, he⟩
      simp only [core1, hkr, execOp, opd, opds, putT, put, nth, doCall, callV_func, List.nil_append, List.append_nil]
      refine opv_callf f1 (f64 s _ (a % 2 ^ i * b) (b * 2 ^ i) 512 (by decide) h1 (n + 1) (hs.old o1 (by omega)) bp) fun v2 h2 n2 hn2 hf2 ⟨o, e2, bo, io, oo⟩ => ?_
      subst e2
      have o2 : Old h h2 n := o1.trans oo (by omega)
      simp only [core1, fgr, execOp, opd, ofValue, putT, put, nth, forgetL, bor, binInt, shiftB, intOp, wrapI, extract, getO, List.getElem?_cons_succ, List.getElem?_cons_zero, decide_true, hw]
      refine ih (i + 1) h2 n2 o _ _ _ _ _ _ _ _ _ (by omega) (hx.old o2 (by omega)) (hy.old o2 (by omega)) ?_ (fun j hj => by have := io j hj; omega) (by omega) hf2 (ho.trans o2 hN)
      rw [hms, hb', Nat.mul_one, Nat.add_mul, Nat.mul_comm (2 ^ i)]
      exact bo
theorem sl_slice {E : Env} {h : Hp} {n id m l hi cap : Nat} {t e : TypeId} {lo' hi' : Option AVal} (ht : und E t = M.pure (.slice e)) (he : sizeOf E e = M.pure 1)
    (hl : Rd (bound lo' 0 hi) h n [] l) (hh : Rd (bound hi' m cap) h n [] hi) : Rd (slice E t (.sl id 0 m (some cap) 1) lo' hi' none) h n [] (.sl id (0 + l * 1) (hi - l) (some (cap - l)) 1) := by
  simp only [slice, ht, he, bind_pure, sameSz]
  exact Rd.bind (i2 := []) hh (Rd.bind (i2 := []) hl (Rd.pure _))
theorem bit_hi (S j : Nat) : bit S (256 + j) = bit (S / 2 ^ 256) j := by
  unfold bit
  rw [Nat.pow_add, Nat.div_div_eq_div_mul]
set_option maxHeartbeats 1000000 in
theorem f42 (a b : Nat) (h : Hp) (n : Nat) (ha : a < b256) (hb : b < b256) (hf : Free h n) : Wp (callI env (evalW env) 42 [W a, W b]) h n fun v' h' n' => v' = .tup [W (a * b % b256), W (a * b / b256)] ∧ Old h h' n := by
  refine wp_callI ff42 fi42 ?_
  have hw : ∀ c, W c = .agg [.int .u64 (wd c 0 : Nat), .int .u64 (wd c 1 : Nat), .int .u64 (wd c 2 : Nat), .int .u64 (wd c 3 : Nat)] := fun _ => rfl
  rw [hw a, hw b]
  simp (disch := omega) only [fu42, Try.f42, Option.getD_some, List.replicate, core1, tyr, fgr, hkr, execOp, opd, opds, putT, put, nth, forgetL, doCall, callV_func, zeroOf, readCells, cellsOf, aggB, cel, alloc, doAlloc, newRow, ended, resultOf, oneOrTup, rowK, List.cons_append, List.nil_append, List.append_nil, List.length_cons, List.length_nil, Nat.reduceAdd, Nat.reduceSub, true_and, Nat.zero_add, memr, List.take_succ_cons, List.take_zero, List.drop_zero, Nat.ble, Cont.size, Cont.sub, upd_same, upd_ne, Option.some.injEq, exists_eq_left', true_and, List.length_cons, List.length_nil]
  obtain ⟨G, hG⟩ : ∃ G, G = upd (upd (upd (upd h n (some (Blk.row (Cont.l [AVal.int IntKind.u64 (wd a 0 : Nat), AVal.int IntKind.u64 (wd a 1 : Nat), AVal.int IntKind.u64 (wd a 2 : Nat), AVal.int IntKind.u64 (wd a 3 : Nat)]) 25))) (n + 1) (some (Blk.row (Cont.l [AVal.int IntKind.u64 (wd b 0 : Nat), AVal.int IntKind.u64 (wd b 1 : Nat), AVal.int IntKind.u64 (wd b 2 : Nat), AVal.int IntKind.u64 (wd b 3 : Nat)]) 25))) (n + 1 + 1) (some (Blk.row (Cont.l [AVal.int IntKind.u64 0, AVal.int IntKind.u64 0, AVal.int IntKind.u64 0, AVal.int IntKind.u64 0]) 25))) (n + 1 + 1 + 1) (some (Blk.row (Cont.l [AVal.int IntKind.u64 0, AVal.int IntKind.u64 0, AVal.int IntKind.u64 0, AVal.int IntKind.u64 0]) 25)) := ⟨_, rfl⟩
  rw [← hG]
  have g3 : Arr .u64 G (n + 1) 4 (fun j => (wd b j : Nat)) := arr_W (by rw [hG, upd_ne _ _ (by omega), upd_ne _ _ (by omega)]; exact upd_same _ _ _)
  have g4 : Arr .u64 G (n + 1 + 1) 4 (fun _ => 0) := arr_0 (by rw [hG, upd_ne _ _ (by omega)]; exact upd_same _ _ _)
  have g5 : Arr .u64 G (n + 1 + 1 + 1) 4 (fun _ => 0) := arr_0 (by rw [hG]; exact upd_same _ _ _)
  have fG : Free G (n + 1 + 1 + 1 + 1) := by rw [hG]; exact ((hf.new).new).new.new
  have oG : Old h G n := fun j hj => by rw [hG]; simp (disch := omega) only [upd_ne]
  refine opv_callf fG (f44 a _ _) fun x h1 n1 hn1 hf1 ⟨bx, ix, ox⟩ => ?_
  have g3 := g3.keep (ox _ (by omega))
  simp only [core1, fgr, execOp, opd, putT, put, nth, forgetL]
  rw [opv_rd (g3.all ti25 rfl rfl), range4]
  simp only [core1, hkr, execOp, opd, opds, putT, put, nth, doCall, callV_func, List.nil_append, List.append_nil]
  refine opv_callf hf1 (f44 b _ _) fun y h2 n2 hn2 hf2 ⟨by_, iy, oy⟩ => ?_
  simp only [core1, fgr, execOp, opd, ofValue, putT, put, nth, forgetL]
  refine nums_make (m := 512) rfl t78 ti3 rfl rfl (by decide) (by decide) fun hs => ?_
  simp only [core1, fgr, execOp, opd, ofValue, putT, put, nth, forgetL]
  have oN : Old h2 (upd h2 n2 (some (Blk.row (Cont.l (cellsF .i64 512 fun _ => 0)) 3))) n2 := (Old.refl _ _).upd (Nat.le_refl _)
  refine loop42a _ _ a b (n + 1 + 1 + 1 + 1) x y _ _ hb G ?_ 256 0 _ (n2 + 1) _ _ _ _ _ _ _ _ _ _ rfl (((bx.old oy hn2).old oN (Nat.le_refl _)).old (Old.refl _ _) (by omega)) ((by_.old oN (Nat.le_refl _)).old (Old.refl _ _) (by omega)) ?_ (fun j hj => by injection hj with hj; omega) (by omega) hf2.new (fun j hj => by rw [upd_ne _ _ (by omega), oy j (by omega), ox j (by omega)])
  · intro h3 n3 s x0 x1 x2 x3 x6 x7 x9 x10 x11 x18 x25 x28 bs is_ hN hf3 ho3
    have hp : (2 : Nat) ^ 256 = b256 := p256.symm
    rw [hp, Nat.mod_eq_of_lt ha] at bs
    obtain ⟨id, hid, es, e, he⟩ := bs
    subst es
    have hge := is_ id rfl
    have g4 := g4.keep (ho3 _ (by omega))
    have g5 := g5.keep (ho3 _ (by omega))
    simp only [core1]
    refine run_draw.2 ⟨rfl, ?_⟩
    simp only [fe_cons, fev_pure, execOp, opd, opt, ofValue, putT, put, nth, Nat.zero_add]
    rw [fev_rd (sl_slice (l := 0) (hi := 256) t78 s3 (bound_none 0 256 (by omega)) (bound_lit (z := 256) 256 512 512 rfl (by omega)))]
    simp only [fe_cons, hkr, execOp, opd, opds, putT, put, nth, doCall, callV_func, List.nil_append, List.append_nil, Nat.reduceAdd, Nat.reduceSub, Nat.add_zero, Nat.zero_mul]
    refine fev_any hf3 (f65 _ (a * b) id 0 512 (bit (a * b)) (fun j hj => by rw [Nat.zero_add]) h3 n3 hid ⟨⟨_, rfl⟩, by omega, e, he⟩) fun v4 h4 n4 r4 w4 hn4 hf4 ⟨e4, o4⟩ => ?_
    subst e4
    simp only [fe_cons, fev_pure, execOp, opd, opt, ofValue, putT, put, nth, Nat.reduceAdd, W]
    rw [fev_rd (sl_slice (l := 256) (hi := 512) t78 s3 (bound_lit (z := 256) 256 0 512 rfl (by omega)) (bound_none 512 512 (by omega)))]
    simp only [fe_cons, hkr, execOp, opd, opds, putT, put, nth, doCall, callV_func, List.nil_append, List.append_nil, Nat.reduceAdd, Nat.reduceSub, Nat.zero_add]
    refine fev_any hf4 (f65 _ (a * b / 2 ^ 256) id 256 512 (bit (a * b)) (fun j hj => bit_hi _ _) h4 n4 (by omega) ⟨⟨_, rfl⟩, by omega, e, (o4 id hid).trans he⟩) fun v5 h5 n5 r5 w5 hn5 hf5 ⟨e5, o5⟩ => ?_
    subst e5
    simp only [fe_cons, execOp, opd, putT, put, nth, Nat.reduceAdd, W]
    have g4 := g4.keep ((o5 _ (by omega)).trans (o4 _ (by omega)))
    have g5 := g5.keep ((o5 _ (by omega)).trans (o4 _ (by omega)))
    refine fev_all4 g4 ti25 rfl fun b6 k4 => ?_
    simp only [fe_cons, execOp, opd, putT, nth, Nat.reduceAdd]
    refine fev_all4 (g5.upd (by omega)) ti25 rfl fun b7 k5 => ?_
    simp only [fe_nil, core1, fgr, putT, nth, forgetL, Nat.reduceAdd, true_and]
    refine ⟨(by (try simp (disch := omega) only [fine, List.all_cons, List.all_nil, clash_pl, clash_pr, Bool.not_false, Bool.true_or, Bool.and_true, Bool.true_and, clash_ww]); repeat' (first | rfl | exact (Bool.or_eq_true _ _).mpr (.inr rfl) | refine (Bool.and_eq_true _ _).mpr ⟨?_, ?_⟩)), ?_⟩
    simp only [wp_pure, wp_rd ((k4.upd (i := n + 1 + 1 + 1) (b := some b7) (by omega)).all ti25 rfl rfl), wp_rd (k5.all ti25 rfl rfl), range4, pick4]
    have hq : a * b / 2 ^ 256 % b256 = a * b / b256 := by
      rw [hp]
      exact Nat.mod_eq_of_lt (Nat.div_lt_of_lt_mul (Nat.mul_lt_mul_of_lt_of_le ha (Nat.le_of_lt hb) (by decide)))
    rw [hq]
    refine ⟨by trivial, fun j hj => ?_⟩
    rw [upd_ne _ _ (by omega), upd_ne _ _ (by omega), o5 j (by omega), o4 j (by omega), ho3 j (by omega)]
    exact oG j hj
  · rw [Nat.pow_zero, Nat.mod_one, Nat.zero_mul]
    obtain ⟨_, _, e, he⟩ := hs.ext (f := bit 0) fun j hj => by unfold bit; simp
    exact ⟨n2, by omega, rfl, e, he⟩
/- Rows of numbers of four words; sums of them: the program's. -/
def words (a : Nat) : List AVal := [.int .u64 (wd a 0 : Nat), .int .u64 (wd a 1 : Nat), .int .u64 (wd a 2 : Nat), .int .u64 (wd a 3 : Nat)]
/-- Numbers that are read. -/
structure WsR (h : Hp) (v : AVal) (ns : List Nat) : Prop where
  len : ∀ ts, bLen env (22 :: ts) v = M.pure (.int .i64 (ns.length : Nat))
  lt : ∀ j (hj : j < ns.length), ns[j] < b256
  at_ : ∀ j (hj : j < ns.length), ∃ p ids, (∀ h' n', Rd (indexAddr env 22 v (.int .i64 (j : Nat))) h' n' [] p) ∧ ∀ n, Rd (load env 25 p) h n ids (.agg (words ns[j]))
inductive ArgW : AVal → List Nat → Prop
  | nils : ArgW .nils []
  | isl (f : Nat → AVal) (ns : List Nat) (hl : ns.length ≤ maxLen) (hc : ∀ j (hj : j < ns.length), ns[j] < b256 ∧ cellsOf f (j * 4) 4 = words ns[j]) : ArgW (.isl f 4 0 ns.length) ns
theorem ArgW.r {v : AVal} {ns : List Nat} (hv : ArgW v ns) (h : Hp) : WsR h v ns := by
  cases hv with
  | nils => exact ⟨fun ts => rfl, fun j hj => (by cases hj), fun j hj => (by cases hj)⟩
  | isl f ns hl hc =>
    refine ⟨fun ts => rfl, fun j hj => (hc j hj).1, fun j hj => ⟨.ip f (0 + ns.length * 4) (0 + j * 4), [], fun h' n' => ?_, fun n => ?_⟩⟩
    · have hu : und env 22 = M.pure (.slice 25) := rfl
      have hz : sizeOf env 25 = M.pure 4 := rfl
      simp only [indexAddr, hu, hz, bind_pure, intK, slK, idx, bind_assoc, Int.toNat_natCast]
      exact Rd.bind (i2 := []) (Rd.ob (by simp; omega)) (Rd.pure _)
    · have hi : ti env 25 = M.pure ty25.i := rfl
      have ha : aggB ty25.i.desc = true := rfl
      simp only [load, hi, bind_pure, ha, readCells, bind_assoc]
      refine Rd.bind (i2 := []) (Rd.ob (ble_of (by show 0 + j * 4 + 4 ≤ _; omega))) ?_
      show Rd (M.pure (AVal.agg (cellsOf f (0 + j * 4) 4))) h n [] _
      rw [Nat.zero_add, (hc j hj).2]
      exact Rd.pure _
theorem words_of {P : Program} {f : Nat → AVal} {o : Nat} {t e : TypeId} (ht : P.underlying t = some (.array 4 e)) (he : P.underlying e = some (.int .u64)) (hc : P.cellsOf t = 4) (hc1 : P.cellsOf e = 1) (ha : Arg P t (cut f o 4)) : ∃ a, a < b256 ∧ cellsOf f o 4 = words a := by
  obtain ⟨_, q⟩ := ha.array_inv ht
  have each : ∀ i, i < 4 → ∃ w : Nat, w < 18446744073709551616 ∧ f (o + i) = .int .u64 (w : Nat) := fun i hi => by
    have h1 := q i hi
    rw [hc1, Nat.mul_one] at h1
    have h2 : ((cut f o 4).drop i).take 1 = [f (o + i)] := by
      match i, hi with
      | 0, _ => rfl
      | 1, _ => rfl
      | 2, _ => rfl
      | 3, _ => rfl
    rw [h2] at h1
    obtain ⟨z, e1, hw⟩ := h1.int_inv he
    injection e1 with e1
    simp only [Lit.wf, Bool.and_eq_true, decide_eq_true_eq] at hw
    have hm : IntKind.u64.min = 0 := rfl
    have hM : IntKind.u64.max = 18446744073709551615 := rfl
    rw [hm, hM] at hw
    exact ⟨z.toNat, by omega, by rw [e1, Int.toNat_of_nonneg hw.1]⟩
  obtain ⟨w0, l0, e0⟩ := each 0 (by decide)
  obtain ⟨w1, l1, e1⟩ := each 1 (by decide)
  obtain ⟨w2, l2, e2⟩ := each 2 (by decide)
  obtain ⟨w3, l3, e3⟩ := each 3 (by decide)
  obtain ⟨q0, q1, q2, q3⟩ := wd_of4 l0 l1 l2 l3
  refine ⟨of4 w0 w1 w2 w3, of4_lt l0 l1 l2 l3, ?_⟩
  show [f o, f (o + 1), f (o + 1 + 1), f (o + 1 + 1 + 1)] = _
  rw [show f o = f (o + 0) from rfl, e0, e1, show o + 1 + 1 = o + 2 from rfl, e2, show o + 2 + 1 = o + 3 from rfl, e3, words, q0, q1, q2, q3]
def sumV : List Nat → Nat → Nat
  | [], s => s
  | x :: l, s => if b256 ≤ s + x then b256 - 1 else sumV l (s + x)
end Go.Am.Ytmlagocbphoedaa
