/- The functions that the statement reaches, gone through. -/
import Derived.Test.YtmlagocbphoedaaTgScC
set_option linter.unusedSimpArgs false
set_option linter.unusedVariables false
set_option linter.defProp false
set_option maxRecDepth 10000
namespace Go.Am.Ytmlagocbphoedaa
open Go Go.Am Go.Proofs
set_option maxHeartbeats 4000000 in
theorem f11 (t by_ of most : Nat) (h : Hp) (n : Nat) (ht : t < b256) (hm : most < b256) (hby : by_ < 18446744073709551616) (hof : of < 18446744073709551616) (hf : Free h n) : Wp (callI env (evalW env) 11 [W t, .int .u64 (by_ : Nat), .int .u64 (of : Nat), W most]) h n fun v' h' n' => v' = scaleA t by_ of most ∧ Old h h' n := by
  refine wp_callI ff11 fi11 ?_
  have hw : ∀ c, W c = .agg [.int .u64 (wd c 0 : Nat), .int .u64 (wd c 1 : Nat), .int .u64 (wd c 2 : Nat), .int .u64 (wd c 3 : Nat)] := fun _ => rfl
  rw [hw t, hw most]
  simp (disch := omega) only [fu11, Try.f11, Option.getD_some, List.replicate, core1, tyr, fgr, hkr, execOp, opd, opds, ofValue, putT, put, nth, forgetL, doCall, callV_func, zeroOf, readCells, cellsOf, aggB, cel, alloc, doAlloc, newRow, ended, resultOf, oneOrTup, rowK, List.append_eq, List.cons_append, List.nil_append, List.append_nil, List.length_cons, List.length_nil, Nat.reduceAdd, Nat.reduceSub, true_and, Nat.zero_add, memr, List.take_succ_cons, List.take_zero, List.drop_zero, Nat.ble, Cont.size, Cont.sub, upd_same, upd_ne, Option.some.injEq, exists_eq_left', true_and, List.length_cons, List.length_nil]
  have fG := ((hf.new (b := some (Blk.row (Cont.l [AVal.int IntKind.u64 (wd t 0 : Nat), AVal.int IntKind.u64 (wd t 1 : Nat), AVal.int IntKind.u64 (wd t 2 : Nat), AVal.int IntKind.u64 (wd t 3 : Nat)]) 25))).new (b := some (Blk.row (Cont.l [AVal.int IntKind.u64 (wd most 0 : Nat), AVal.int IntKind.u64 (wd most 1 : Nat), AVal.int IntKind.u64 (wd most 2 : Nat), AVal.int IntKind.u64 (wd most 3 : Nat)]) 25))).new (b := some (Blk.row (Cont.l [AVal.int IntKind.u64 0, AVal.int IntKind.u64 0, AVal.int IntKind.u64 0, AVal.int IntKind.u64 0]) 25))
  refine opv_callf fG (f41 t _ _ ht fG) fun v1 h1 n1 hn1 hf1 ⟨e1, o1⟩ => ?_
  subst e1
  have k8 : Arr .u64 h1 (n + 1 + 1) 4 (fun _ => 0) := arr_0 ((o1 _ (by omega)).trans (upd_same _ _ _))
  have k4 : Arr .u64 h1 n 4 (fun j => (wd t j : Nat)) := arr_W ((o1 _ (by omega)).trans (by rw [upd_ne _ _ (by omega), upd_ne _ _ (by omega)]; exact upd_same _ _ _))
  have k7 : Arr .u64 h1 (n + 1) 4 (fun j => (wd most j : Nat)) := arr_W ((o1 _ (by omega)).trans (by rw [upd_ne _ _ (by omega)]; exact upd_same _ _ _))
  have oh : Old h h1 n := fun j hj => by rw [o1 j (by omega)]; simp (disch := omega) only [upd_ne]
  by_cases h0 : t = 0
  · have e : scaleV t by_ of most = none := if_pos (.inl h0)
    have hd := decide_eq_true h0
    simp only [core1, tyr, fgr, execOp, opd, ofValue, ops2, putT, put, nth, forgetL, sizeOf, doPick, branch, cel, getO, List.getElem?_cons_succ, List.getElem?_cons_zero, build, fill, hd]
    refine opv_all4 k8 ti25 rfl fun bb hbb => ?_
    simp only [core1, fgr, execOp, opd, ofValue, putT, put, nth, forgetL, true_and, wp_pure, wp_rd (hbb.all ti25 rfl rfl), range4, pick4]
    exact ⟨by rw [scaleA, e]; rfl, fun j hj => by rw [upd_ne _ _ (by omega)]; exact oh j hj⟩
  have hd := decide_eq_false h0
  simp only [core1, execOp, opd, putT, put, nth, List.getElem?_cons_succ, List.getElem?_cons_zero, hd]
  rw [opv_rd (k7.all ti25 rfl rfl), range4]
  simp only [core1, hkr, execOp, opd, opds, putT, put, nth, doCall, callV_func, List.getElem?_cons_succ, List.getElem?_cons_zero, List.nil_append, List.append_nil]
  refine opv_callf hf1 (f41 most _ _ hm hf1) fun v1 h2 n2 hn2 hf2 ⟨e1, o2⟩ => ?_
  subst e1
  have k8 := k8.keep (o2 _ (by omega))
  have k4 := k4.keep (o2 _ (by omega))
  have k7 := k7.keep (o2 _ (by omega))
  have oh := oh.trans o2 (by omega)
  by_cases h1' : most = 0
  · have e : scaleV t by_ of most = none := if_pos (.inr (.inl h1'))
    have hd2 := decide_eq_true h1'
    simp only [core1, tyr, fgr, execOp, opd, ofValue, ops2, putT, put, nth, forgetL, sizeOf, doPick, branch, cel, getO, List.getElem?_cons_succ, List.getElem?_cons_zero, build, fill, hd2]
    refine opv_all4 k8 ti25 rfl fun bb hbb => ?_
    simp only [core1, fgr, execOp, opd, ofValue, putT, put, nth, forgetL, true_and, wp_pure, wp_rd (hbb.all ti25 rfl rfl), range4, pick4]
    exact ⟨by rw [scaleA, e]; rfl, fun j hj => by rw [upd_ne _ _ (by omega)]; exact oh j hj⟩
  have hd2 := decide_eq_false h1'
  by_cases p1 : ((by_ : Nat) : Int) < 1
  · have e : scaleV t by_ of most = none := if_pos (.inr (.inr (.inl (by unfold okB; rw [decide_eq_false (by omega)]; rfl))))
    simp only [core1, tyr, fgr, execOp, opd, ofValue, ops2, putT, put, nth, forgetL, sizeOf, bor, binInt, shiftB, intOp, doPick, branch, cel, getO, List.getElem?_cons_succ, List.getElem?_cons_zero, decide_true, build, fill, hd2, p1]
    refine opv_all4 k8 ti25 rfl fun bb hbb => ?_
    simp only [core1, fgr, execOp, opd, ofValue, putT, put, nth, forgetL, true_and, wp_pure, wp_rd (hbb.all ti25 rfl rfl), range4, pick4]
    exact ⟨by rw [scaleA, e]; rfl, fun j hj => by rw [upd_ne _ _ (by omega)]; exact oh j hj⟩
  by_cases p2 : (1099511627776 : Int) < ((by_ : Nat) : Int)
  · have e : scaleV t by_ of most = none := if_pos (.inr (.inr (.inl (by unfold okB; rw [decide_eq_false (show ¬ by_ ≤ 1099511627776 by omega), Bool.and_false]))))
    simp only [core1, tyr, fgr, execOp, opd, ofValue, ops2, putT, put, nth, forgetL, sizeOf, bor, binInt, shiftB, intOp, doPick, branch, cel, getO, List.getElem?_cons_succ, List.getElem?_cons_zero, gt_iff_lt, decide_true, decide_false, build, fill, hd2, p1, p2]
    refine opv_all4 k8 ti25 rfl fun bb hbb => ?_
    simp only [core1, fgr, execOp, opd, ofValue, putT, put, nth, forgetL, true_and, wp_pure, wp_rd (hbb.all ti25 rfl rfl), range4, pick4]
    exact ⟨by rw [scaleA, e]; rfl, fun j hj => by rw [upd_ne _ _ (by omega)]; exact oh j hj⟩
  by_cases p3 : ((of : Nat) : Int) < 1
  · have e : scaleV t by_ of most = none := if_pos (.inr (.inr (.inr (by unfold okB; rw [decide_eq_false (by omega)]; rfl))))
    simp only [core1, tyr, fgr, execOp, opd, ofValue, ops2, putT, put, nth, forgetL, sizeOf, bor, binInt, shiftB, intOp, doPick, branch, cel, getO, List.getElem?_cons_succ, List.getElem?_cons_zero, gt_iff_lt, decide_true, decide_false, build, fill, hd2, p1, p2, p3]
    refine opv_all4 k8 ti25 rfl fun bb hbb => ?_
    simp only [core1, fgr, execOp, opd, ofValue, putT, put, nth, forgetL, true_and, wp_pure, wp_rd (hbb.all ti25 rfl rfl), range4, pick4]
    exact ⟨by rw [scaleA, e]; rfl, fun j hj => by rw [upd_ne _ _ (by omega)]; exact oh j hj⟩
  by_cases p4 : (1099511627776 : Int) < ((of : Nat) : Int)
  · have e : scaleV t by_ of most = none := if_pos (.inr (.inr (.inr (by unfold okB; rw [decide_eq_false (show ¬ of ≤ 1099511627776 by omega), Bool.and_false]))))
    simp only [core1, tyr, fgr, execOp, opd, ofValue, ops2, putT, put, nth, forgetL, sizeOf, bor, binInt, shiftB, intOp, doPick, branch, cel, getO, List.getElem?_cons_succ, List.getElem?_cons_zero, gt_iff_lt, decide_true, decide_false, build, fill, hd2, p1, p2, p3, p4]
    refine opv_all4 k8 ti25 rfl fun bb hbb => ?_
    simp only [core1, fgr, execOp, opd, ofValue, putT, put, nth, forgetL, true_and, wp_pure, wp_rd (hbb.all ti25 rfl rfl), range4, pick4]
    exact ⟨by rw [scaleA, e]; rfl, fun j hj => by rw [upd_ne _ _ (by omega)]; exact oh j hj⟩
  have hby1 : 1 ≤ by_ ∧ by_ ≤ 1099511627776 := by omega
  have hof1 : 1 ≤ of ∧ of ≤ 1099511627776 := by omega
  have e : scaleV t by_ of most = some (if most < t * by_ / of then most else if t * by_ / of = 0 then 1 else t * by_ / of) := by
    unfold scaleV
    rw [if_neg (by simp [h0, h1', okB, hby1, hof1])]
  have hb2 : by_ < b256 := by unfold b256; omega
  simp only [core1, fgr, execOp, opd, ofValue, putT, put, nth, forgetL, bor, binInt, shiftB, intOp, doPick, branch, List.getElem?_cons_succ, List.getElem?_cons_zero, gt_iff_lt, decide_true, decide_false, hd2, p1, p2, p3, p4]
  refine run_draw.2 ⟨rfl, ?_⟩
  simp only [fe_cons, execOp, opd, nth]
  rw [fev_rd (k4.all ti25 rfl rfl), range4]
  simp only [fe_cons, fev_pure, hkr, execOp, opd, opds, putT, put, nth, doCall, callV_func, List.nil_append, List.append_nil, Nat.reduceAdd, Nat.zero_add]
  refine fev_free hf2 (f43 by_ _ _ hby) (f43 by_ _ _ hby) fun v3 g3 m3 hm3 hg3 ⟨e3, x3⟩ => ?_
  subst e3
  simp only [fe_cons, hkr, execOp, opd, opds, putT, put, nth, doCall, callV_func, List.nil_append, List.append_nil, Nat.reduceAdd]
  refine fev_free hg3 (f42 t by_ _ _ ht hb2 Free.none) (f42 t by_ _ _ ht hb2 hg3) fun v4 g4 m4 hm4 hg4 ⟨e4, x4⟩ => ?_
  subst e4
  simp only [fe_cons, fev_pure, core1, tyr, execOp, opd, putT, put, nth, zeroOf, cel, alloc, doAlloc, newRow, extract, getO, List.getElem?_cons_succ, List.getElem?_cons_zero, Nat.reduceAdd, W]
  refine fev_free hg4 (al25 _ _) (al25 _ _) fun v5 g5 m5 hm5 hg5 ⟨e5, a5, x5, em5⟩ => ?_
  subst e5; subst em5
  simp only [fe_cons, core1, tyr, execOp, putT, put, zeroOf, cel, alloc, doAlloc, newRow, Nat.reduceAdd]
  refine fev_free hg5 (al25 _ _) (al25 _ _) fun v6 g6 m6 hm6 hg6 ⟨e6, a6, x6, em6⟩ => ?_
  subst e6; subst em6
  simp only [fe_cons, execOp, opd, putT, put, nth, Nat.reduceAdd]
  refine fev_all4 (a5.keep (x6 _ (by omega))) ti25 rfl fun b9 l10 => ?_
  simp only [fe_cons, execOp, opd, putT, nth, Nat.reduceAdd]
  refine fev_all4 (a6.upd (by omega)) ti25 rfl fun b10 l11 => ?_
  simp only [fe_nil, core1, fgr, putT, forgetL, Nat.reduceAdd]
  refine ⟨(by (try simp (disch := omega) only [fine, List.all_cons, List.all_nil, clash_pl, clash_pr, Bool.not_false, Bool.true_or, Bool.and_true, Bool.true_and, clash_rw, clash_ww, clash_nn, clash_nw, clash_xn]); repeat' (first | rfl | exact (Bool.or_eq_true _ _).mpr (.inr rfl) | refine (Bool.and_eq_true _ _).mpr ⟨?_, ?_⟩)), ?_⟩
  have kw : Arr .u64 (upd (upd g6 m4 (some b9)) (m4 + 1) (some b10)) m4 4 (fun j => (wd (t * by_ % b256) j : Nat)) := (pick_wd l10).upd (by omega)
  have kh : Arr .u64 (upd (upd g6 m4 (some b9)) (m4 + 1) (some b10)) (m4 + 1) 4 (fun j => (wd (t * by_ / b256) j : Nat)) := pick_wd l11
  have s4 : ∀ j, j < n2 → (upd (upd g6 m4 (some b9)) (m4 + 1) (some b10)) j = h2 j := fun j hj => by
    rw [upd_ne _ _ (by omega), upd_ne _ _ (by omega), x6 j (by omega), x5 j (by omega), x4 j (by omega), x3 j (by omega)]
  have f4 : Free (upd (upd g6 m4 (some b9)) (m4 + 1) (some b10)) (m4 + 1 + 1) := (hg6.upd (by omega)).upd (by omega)
  generalize upd (upd g6 m4 (some b9)) (m4 + 1) (some b10) = H4 at *
  have k8 := k8.keep (s4 _ (by omega))
  have k7 := k7.keep (s4 _ (by omega))
  have oh : Old h H4 n := fun j hj => by rw [s4 j (by omega)]; exact oh j hj
  -- the bits
  refine run_draw.2 ⟨rfl, ?_⟩
  simp only [fe_cons, execOp, opd, nth]
  rw [fev_rd (kw.all ti25 rfl rfl), range4]
  simp only [fe_cons, hkr, execOp, opd, opds, putT, put, nth, doCall, callV_func, List.nil_append, List.append_nil, Nat.zero_add]
  refine fev_free f4 (f44 (t * by_ % b256) _ _) (f44 (t * by_ % b256) _ _) fun x H5 n5 hn5 f5 ⟨bx, ix, ox⟩ => ?_
  have kh5 := kh.keep (ox _ (by omega))
  simp only [fe_cons, execOp, opd, putT, put, nth, Nat.reduceAdd]
  rw [fev_rd (kh5.all ti25 rfl rfl), range4]
  simp only [fe_cons, hkr, execOp, opd, opds, putT, put, nth, doCall, callV_func, List.nil_append, List.append_nil, Nat.reduceAdd]
  refine fev_free f5 (f44 (t * by_ / b256) _ _) (f44 (t * by_ / b256) _ _) fun y H6 n6 hn6 f6 ⟨by2, iy, oy⟩ => ?_
  simp only [fe_cons, execOp, opd, opds, putT, put, nth, doCall, builtin, two2, Nat.reduceAdd]
  have bx6 := bx.old oy hn6
  have hne : ownId x ≠ ownId y := by
    obtain ⟨i1, q1, rfl, _⟩ := bx
    obtain ⟨i2, q2, rfl, _⟩ := by2
    intro q
    injection q with q
    have := iy i2 rfl
    omega
  refine fev_any f6 (wp_app_bits bx6 by2 hne) fun v7 H7 n7 rr ww hn7 f7 ⟨e7, en7, ⟨e8, hrow⟩, o7⟩ => ?_
  subst e7; subst en7
  have hidx : ∀ j, ownId x = some j → m4 + 1 + 1 ≤ j := ix
  simp only [fe_nil, fe_cons, fev_pure, core1, fgr, execOp, opd, ops2, putT, put, nth, forgetL, Nat.reduceAdd]
  refine ⟨(by (try simp (disch := omega) only [fine, List.all_cons, List.all_nil, clash_pr, clash_rr, Bool.not_false, Bool.true_or, Bool.and_true, Bool.true_and, clash_nn, clash_xn, clash_nx]); repeat' (first | rfl | exact (Bool.or_eq_true _ _).mpr (.inr rfl) | refine (Bool.and_eq_true _ _).mpr ⟨?_, ?_⟩)), ?_⟩
  have s7 : ∀ j, j < m4 + 1 + 1 → H7 j = H4 j := fun j hj => by
    rw [o7 j (by omega) (fun q => by have := hidx j q; omega), oy j (by omega), ox j (by omega)]
  have k8 := k8.keep (s7 _ (by omega))
  have k7 := k7.keep (s7 _ (by omega))
  have oh : Old h H7 n := fun j hj => by rw [s7 j (by omega)]; exact oh j hj
  have hg : ∀ j, j < 512 → (if j < 256 then bit (t * by_ % b256) j else bit (t * by_ / b256) (j - 256)) = bit (t * by_) j := fun j hj => by
    by_cases c : j < 256
    · rw [if_pos c, bit_mod c]
    · rw [if_neg c]
      have := bit_hi (t * by_) (j - 256)
      rw [show 256 + (j - 256) = j by omega, ← p256] at this
      exact this.symm
  have hP : t * by_ < 2 ^ 512 := by
    have h1 : t * by_ < b256 * b256 := Nat.mul_lt_mul_of_lt_of_le ht (Nat.le_of_lt hb2) (by decide)
    exact hP_aux p256 h1 512 rfl
  have hw511 : IntKind.i64.wrap 511 = 511 := w64 (by decide) (by decide)
  simp (disch := omega) only [core1, tyr, fgr, execOp, opd, opds, ofValue, putT, put, nth, forgetL, doCall, builtin, one1, blr, sizeOf, zeroOf, bor, binInt, shiftB, intOp, wrapI, cel, alloc, doAlloc, newRow, getO, rowK, List.length_cons, List.length_nil, Nat.reduceAdd, Int.cast_ofNat_Int, Int.reduceSub, not_false_eq_true, decide_true, Bool.and_true, true_and, Nat.zero_add, reduceCtorEq, memr, build, fill, Nat.ble, writeCells, setAll, Cont.size, Cont.set, upd_same, List.all_cons, List.all_nil, Option.some.injEq, exists_eq_left', ne_eq, true_and, List.length_cons, List.length_nil, hw511]
  have hz : t * by_ / 2 ^ 512 = 0 := Nat.div_eq_of_lt hP
  have f8 := (f7.new (b := some (Blk.row (Cont.l [AVal.int IntKind.u64 0, AVal.int IntKind.u64 0, AVal.int IntKind.u64 0, AVal.int IntKind.u64 0]) 25))).upd (b := some (Blk.row (Cont.l [AVal.int IntKind.u64 0, AVal.int IntKind.u64 0, AVal.int IntKind.u64 0, AVal.int IntKind.u64 0]) 25)) (i := n6 + 1) (by omega)
  refine loop11 _ _ (n6 + 1) (t * by_) of n6 (n6 + 1) 512 _ _ _ _ hg hof1 hP (by omega) (Nat.le_refl _) H7 ?_ 512 _ (n6 + 1 + 1) false 0 _ _ _ _ _ _ _ _ _ _ _ _ (Nat.le_refl _) ?_ (by rw [hz, Nat.zero_mod]) (Nums.upd (Nums.upd ⟨⟨_, rfl⟩, by omega, e8, hrow⟩ (by omega)) (by omega)) ((arr_0 (upd_same _ _ _)).ext fun j hj => by rw [hz, Nat.zero_div, Nat.zero_mod]; unfold wd; simp) (by omega) (by omega) f8 (fun j hj => by rw [upd_ne _ _ (by omega), upd_ne _ _ (by omega)])
  · intro H9 n9 x0 x1 x3 x4 x9 x10 x11 x12 x15 x16 x38 x57 x78 x94 x97 k13 hn9 f9 s9
    have k8 := k8.keep (s9 _ (by omega))
    have k7 := k7.keep (s9 _ (by omega))
    have oh : Old h H9 n := fun j hj => by rw [s9 j (by omega)]; exact oh j hj
    by_cases z2 : b256 ≤ t * by_ / of
    · have v : (if most < t * by_ / of then most else if t * by_ / of = 0 then 1 else t * by_ / of) = most := if_pos (by omega)
      have zd2 := decide_eq_true z2
      simp only [core1, fgr, execOp, opd, ofValue, putT, put, nth, forgetL, doPick, branch, List.getElem?_cons_succ, List.getElem?_cons_zero, zd2]
      rw [opv_rd (k7.all ti25 rfl rfl), range4]
      simp only [core1, execOp, opd, putT, put, nth]
      refine opv_all4 k8 ti25 rfl fun bb hbb => ?_
      simp only [core1, fgr, execOp, opd, ofValue, putT, put, nth, forgetL, true_and, wp_pure, wp_rd (hbb.all ti25 rfl rfl), range4, pick4]
      exact ⟨by rw [scaleA, e, v]; rfl, fun j hj => by rw [upd_ne _ _ (by omega)]; exact oh j hj⟩
    have zd2 := decide_eq_false z2
    have hQ : t * by_ / of < b256 := by omega
    rw [Nat.mod_eq_of_lt hQ] at k13
    simp only [core1, execOp, opd, putT, put, nth, List.getElem?_cons_succ, List.getElem?_cons_zero, zd2]
    rw [opv_rd (k13.all ti25 rfl rfl), range4]
    simp only [core1, execOp, opd, putT, put, nth, List.getElem?_cons_succ, List.getElem?_cons_zero]
    rw [opv_rd (k7.all ti25 rfl rfl), range4]
    simp only [core1, hkr, execOp, opd, opds, putT, put, nth, doCall, callV_func, List.getElem?_cons_succ, List.getElem?_cons_zero, List.nil_append, List.append_nil]
    refine opv_callf f9 (f48 _ _ _ _ hQ hm f9) fun v11 H11 n11 hn11 f11' ⟨e11, o11⟩ => ?_
    subst e11
    have k8 := k8.keep (o11 _ (by omega))
    have k7 := k7.keep (o11 _ (by omega))
    have k13 := k13.keep (o11 _ (by omega))
    have oh := oh.trans o11 (by omega)
    by_cases z3 : most < t * by_ / of
    · have v : (if most < t * by_ / of then most else if t * by_ / of = 0 then 1 else t * by_ / of) = most := if_pos z3
      have zd3 : cmpV (t * by_ / of) most = 1 := by unfold cmpV; rw [if_neg (by omega), if_neg (by omega)]
      simp only [core1, fgr, execOp, opd, ofValue, putT, put, nth, forgetL, bor, binInt, shiftB, intOp, doPick, branch, List.getElem?_cons_succ, List.getElem?_cons_zero, Int.reduceLT, gt_iff_lt, decide_true, zd3]
      rw [opv_rd (k7.all ti25 rfl rfl), range4]
      simp only [core1, execOp, opd, putT, put, nth]
      refine opv_all4 k8 ti25 rfl fun bb hbb => ?_
      simp only [core1, fgr, execOp, opd, ofValue, putT, put, nth, forgetL, true_and, wp_pure, wp_rd (hbb.all ti25 rfl rfl), range4, pick4]
      exact ⟨by rw [scaleA, e, v]; rfl, fun j hj => by rw [upd_ne _ _ (by omega)]; exact oh j hj⟩
    have zd3 : ∃ z : Int, cmpV (t * by_ / of) most = z ∧ ¬ 0 < z := by
      unfold cmpV
      by_cases e1 : t * by_ / of = most
      · exact ⟨0, if_pos e1, by decide⟩
      · exact ⟨-1, by rw [if_neg e1, if_pos (by omega)], by decide⟩
    obtain ⟨z, zz, zn⟩ := zd3
    simp only [core1, fgr, execOp, opd, ofValue, putT, put, nth, forgetL, bor, binInt, shiftB, intOp, doPick, branch, List.getElem?_cons_succ, List.getElem?_cons_zero, gt_iff_lt, decide_true, decide_false, zz, zn]
    rw [opv_rd (k13.all ti25 rfl rfl), range4]
    simp only [core1, hkr, execOp, opd, opds, putT, put, nth, doCall, callV_func, List.nil_append, List.append_nil]
    refine opv_callf f11' (f41 _ _ _ hQ f11') fun v12 H12 n12 hn12 f12 ⟨e12, o12⟩ => ?_
    subst e12
    have k8 := k8.keep (o12 _ (by omega))
    have k13 := k13.keep (o12 _ (by omega))
    have oh := oh.trans o12 (by omega)
    by_cases z4 : t * by_ / of = 0
    · have v : (if most < t * by_ / of then most else if t * by_ / of = 0 then 1 else t * by_ / of) = 1 := by rw [if_neg z3, if_pos z4]
      have zd4 := decide_eq_true z4
      simp only [core1, fgr, hkr, execOp, opd, opds, ofValue, putT, put, nth, forgetL, doCall, callV_func, List.nil_append, List.append_nil, zd4]
      refine opv_callf f12 (f43 1 _ _ (by decide)) fun v13 H13 n13 hn13 f13 ⟨e13, o13⟩ => ?_
      subst e13
      have k8 := k8.keep (o13 _ (by omega))
      have oh := oh.trans o13 (by omega)
      simp only [core1, execOp, opd, putT, put, nth, W]
      refine opv_all4 k8 ti25 rfl fun bb hbb => ?_
      simp only [core1, fgr, execOp, opd, ofValue, putT, put, nth, forgetL, true_and, wp_pure, wp_rd (hbb.all ti25 rfl rfl), range4, pick4]
      exact ⟨by rw [scaleA, e, v]; rfl, fun j hj => by rw [upd_ne _ _ (by omega)]; exact oh j hj⟩
    have v : (if most < t * by_ / of then most else if t * by_ / of = 0 then 1 else t * by_ / of) = t * by_ / of := by rw [if_neg z3, if_neg z4]
    have zd4 := decide_eq_false z4
    simp only [core1, fgr, execOp, opd, putT, put, nth, forgetL, zd4]
    rw [opv_rd (k13.all ti25 rfl rfl), range4]
    simp only [core1, execOp, opd, putT, put, nth]
    refine opv_all4 k8 ti25 rfl fun bb hbb => ?_
    simp only [core1, fgr, execOp, opd, ofValue, putT, put, nth, forgetL, true_and, wp_pure, wp_rd (hbb.all ti25 rfl rfl), range4, pick4]
    exact ⟨by rw [scaleA, e, v]; rfl, fun j hj => by rw [upd_ne _ _ (by omega)]; exact oh j hj⟩
  · rw [hz, Nat.zero_div]; rfl
/- Rows of numbers of four words; sums of them: the program's. -/
def words (a : Nat) : List AVal := [.int .u64 (wd a 0 : Nat), .int .u64 (wd a 1 : Nat), .int .u64 (wd a 2 : Nat), .int .u64 (wd a 3 : Nat)]
/-- Numbers that are read. -/
structure WsR (h : Hp) (v : AVal) (ns : List Nat) : Prop where
  len : ∀ ts, bLen env (22 :: ts) v = M.pure (.int .i64 (ns.length : Nat))
  lt : ∀ j (hj : j < ns.length), ns[j] < b256
  at_ : ∀ j (hj : j < ns.length), ∃ p ids, (∀ h' n', Rd (indexAddr env 22 v (.int .i64 (j : Nat))) h' n' [] p) ∧ ∀ n, Rd (load env 25 p) h n ids (.agg (words ns[j]))
inductive ArgW : AVal → List Nat → Prop
  | nils : ArgW .nils []
  | isl (f : Nat → AVal) (ns : List Nat) (hl : ns.length ≤ maxLen) (hc : ∀ j (hj : j < ns.length), ns[j] < b256 ∧ cellsOf f (j * 4) 4 = words ns[j]) : ArgW (.isl f 4 0 ns.length) ns
theorem ArgW.r {v : AVal} {ns : List Nat} (hv : ArgW v ns) (h : Hp) : WsR h v ns := by
  cases hv with
  | nils => exact ⟨fun ts => rfl, fun j hj => (by cases hj), fun j hj => (by cases hj)⟩
  | isl f ns hl hc =>
    refine ⟨fun ts => rfl, fun j hj => (hc j hj).1, fun j hj => ⟨.ip f (0 + ns.length * 4) (0 + j * 4), [], fun h' n' => ?_, fun n => ?_⟩⟩
    · have hu : und env 22 = M.pure (.slice 25) := rfl
      have hz : sizeOf env 25 = M.pure 4 := rfl
      simp only [indexAddr, hu, hz, bind_pure, intK, slK, idx, bind_assoc, Int.toNat_natCast]
      exact Rd.bind (i2 := []) (Rd.ob (by simp; omega)) (Rd.pure _)
    · have hi : ti env 25 = M.pure ty25.i := rfl
      have ha : aggB ty25.i.desc = true := rfl
      simp only [load, hi, bind_pure, ha, readCells, bind_assoc]
      refine Rd.bind (i2 := []) (Rd.ob (ble_of (by show 0 + j * 4 + 4 ≤ _; omega))) ?_
      show Rd (M.pure (AVal.agg (cellsOf f (0 + j * 4) 4))) h n [] _
      rw [Nat.zero_add, (hc j hj).2]
      exact Rd.pure _
theorem ArgW.short {v : AVal} {ns : List Nat} (hv : ArgW v ns) : ns.length ≤ maxLen := by
  cases hv with
  | nils => exact Nat.zero_le _
  | isl f ns hl hc => exact hl
theorem words_of {P : Program} {f : Nat → AVal} {o : Nat} {t e : TypeId} (ht : P.underlying t = some (.array 4 e)) (he : P.underlying e = some (.int .u64)) (hc : P.cellsOf t = 4) (hc1 : P.cellsOf e = 1) (ha : Arg P t (cut f o 4)) : ∃ a, a < b256 ∧ cellsOf f o 4 = words a := by
  obtain ⟨_, q⟩ := ha.array_inv ht
  have each : ∀ i, i < 4 → ∃ w : Nat, w < 18446744073709551616 ∧ f (o + i) = .int .u64 (w : Nat) := fun i hi => by
    have h1 := q i hi
    rw [hc1, Nat.mul_one] at h1
    have h2 : ((cut f o 4).drop i).take 1 = [f (o + i)] := by
      match i, hi with
      | 0, _ => rfl
      | 1, _ => rfl
      | 2, _ => rfl
      | 3, _ => rfl
    rw [h2] at h1
    obtain ⟨z, e1, hw⟩ := h1.int_inv he
    injection e1 with e1
    simp only [Lit.wf, Bool.and_eq_true, decide_eq_true_eq] at hw
    have hm : IntKind.u64.min = 0 := rfl
    have hM : IntKind.u64.max = 18446744073709551615 := rfl
    rw [hm, hM] at hw
    exact ⟨z.toNat, by omega, by rw [e1, Int.toNat_of_nonneg hw.1]⟩
  obtain ⟨w0, l0, e0⟩ := each 0 (by decide)
  obtain ⟨w1, l1, e1⟩ := each 1 (by decide)
  obtain ⟨w2, l2, e2⟩ := each 2 (by decide)
  obtain ⟨w3, l3, e3⟩ := each 3 (by decide)
  obtain ⟨q0, q1, q2, q3⟩ := wd_of4 l0 l1 l2 l3
  refine ⟨of4 w0 w1 w2 w3, of4_lt l0 l1 l2 l3, ?_⟩
  show [f o, f (o + 1), f (o + 1 + 1), f (o + 1 + 1 + 1)] = _
  rw [show f o = f (o + 0) from rfl, e0, e1, show o + 1 + 1 = o + 2 from rfl, e2, show o + 2 + 1 = o + 3 from rfl, e3, words, q0, q1, q2, q3]
theorem arg_ws {v : AVal} (ha : Arg Try.prog 22 [v]) : ∃ ns, ArgW v ns := by
  have hc25 : Try.prog.cellsOf 25 = 4 := by kernel_rfl
  have hc23 : Try.prog.cellsOf 23 = 1 := by kernel_rfl
  rcases ha.slice_inv Try.underlying22 (by omega) with h | ⟨f, len, h, hl, hx⟩
  · injection h with h; subst h; exact ⟨[], .nils⟩
  · injection h with h
    subst h
    rw [hc25] at hx ⊢
    have each : ∀ i, ∃ a : Nat, i < len → a < b256 ∧ cellsOf f (i * 4) 4 = words a := fun i => by
      by_cases hi : i < len
      · obtain ⟨a, h1, h2⟩ := words_of Try.underlying25 Try.underlying23 hc25 hc23 (hx i hi)
        exact ⟨a, fun _ => ⟨h1, h2⟩⟩
      · exact ⟨0, fun q => absurd q hi⟩
    obtain ⟨b, hb⟩ := Classical.axiomOfChoice each
    have := ArgW.isl f ((List.range len).map b) (by simpa using hl) (fun j hj => by
      simp only [List.length_map, List.length_range] at hj
      simp only [List.getElem_map, List.getElem_range]
      exact hb j hj)
    simp only [List.length_map, List.length_range] at this
    exact ⟨_, this⟩
def sumV : List Nat → Nat → Nat
  | [], s => s
  | x :: l, s => if b256 ≤ s + x then b256 - 1 else sumV l (s + x)
theorem sumV_lt : ∀ (l : List Nat) (s : Nat), s < b256 → sumV l s < b256 := by
  intro l
  induction l with
  | nil => intro s hs; exact hs
  | cons x l ih =>
    intro s hs
    rw [sumV]
    split
    · unfold b256; omega
    · exact ih _ (by omega)
theorem loop12 (Q : Post0) (ks : List Kf) (v : AVal) (ns : List Nat) (N i2 i3 : Nat) (hl : ns.length ≤ maxLen) (d : i2 ≠ i3) (hN : N ≤ i2 ∧ N ≤ i3) (h0 : Hp) (hv : ∀ h, Old h0 h N → WsR h v ns) (hlt : ∀ j (hj : j < ns.length), ns[j] < b256)
    (hE : ∀ (h : Hp) (n : Nat) (x0 x5 x6 x7 x8 x9 x10 x11 x20 : AVal), Arr .u64 h i2 4 (fun _ => 0) → Arr .u64 h i3 4 (fun j => (wd (sumV ns 0) j : Nat)) → Old h0 h N → Kont env 12 none Q ks (.exit 0) (x0 :: AVal.junk :: .ptr i2 0 :: .ptr i3 0 :: AVal.junk :: x5 :: x6 :: x7 :: x8 :: x9 :: x10 :: x11 :: AVal.junk :: AVal.junk :: AVal.junk :: AVal.junk :: AVal.junk :: AVal.junk :: AVal.junk :: AVal.junk :: x20 :: AVal.junk :: AVal.junk :: AVal.junk :: AVal.junk :: AVal.junk :: []) h n)
    (hR : ∀ (h : Hp) (n : Nat) (x0 x3 x5 x6 x7 x8 x9 x10 x11 x20 : AVal), Arr .u64 h i2 4 (fun j => (wd (sumV ns 0) j : Nat)) → Old h0 h N → Kont env 12 none Q ks .ret (x0 :: AVal.junk :: .ptr i2 0 :: x3 :: AVal.junk :: x5 :: x6 :: x7 :: x8 :: x9 :: x10 :: x11 :: AVal.junk :: AVal.junk :: AVal.junk :: AVal.junk :: AVal.junk :: AVal.junk :: AVal.junk :: AVal.junk :: x20 :: AVal.junk :: AVal.junk :: AVal.junk :: AVal.junk :: AVal.junk :: []) h n) :
    ∀ (k i s : Nat) (h : Hp) (n : Nat) (x0 x5 x6 x7 x11 x20 : AVal), i + k = ns.length → s < b256 → sumV ns 0 = sumV (ns.drop i) s → Arr .u64 h i2 4 (fun _ => 0) → Arr .u64 h i3 4 (fun j => (wd s j : Nat)) → i2 < n → i3 < n → Free h n → Old h0 h N →
    Run env 12 none Q (.loop lp12_0) ks (x0 :: AVal.junk :: .ptr i2 0 :: .ptr i3 0 :: AVal.junk :: x5 :: x6 :: x7 :: v :: .int .i64 (ns.length : Nat) :: .int .i64 (i : Nat) :: x11 :: AVal.junk :: AVal.junk :: AVal.junk :: AVal.junk :: AVal.junk :: AVal.junk :: AVal.junk :: AVal.junk :: x20 :: AVal.junk :: AVal.junk :: AVal.junk :: AVal.junk :: AVal.junk :: []) h n := by
  have hml : maxLen = 9223372036854775807 := rfl
  intro k
  induction k with
  | zero =>
    intro i s h n x0 x5 x6 x7 x11 x20 hi hs he a2 a3 b2 b3 hf ho
    have : i = ns.length := by omega
    subst this
    rw [List.drop_length, sumV] at he
    have hc : ¬ ((ns.length : Nat) : Int) < ((ns.length : Nat) : Int) := by omega
    rw [run_loop]
    simp only [lp12_0, loopsOf, Try.f12, Option.getD_some, core1, fgr, execOp, opd, putT, put, nth, forgetL, bor, binInt, shiftB, intOp, List.nil_append, List.append_nil, decide_true, decide_false, List.getD_cons_zero, hc]
    exact hE h n _ _ _ _ _ _ _ _ _ a2 (a3.ext fun j hj => by rw [he]) ho
  | succ k ih =>
    intro i s h n x0 x5 x6 x7 x11 x20 hi hs he a2 a3 b2 b3 hf ho
    have h1 : i < ns.length := by omega
    have hc : ((i : Nat) : Int) < ((ns.length : Nat) : Int) := by omega
    have hw : IntKind.i64.wrap (((i : Nat) : Int) + 1) = ((i + 1 : Nat) : Int) := by rw [w64 (by omega) (by omega)]; omega
    obtain ⟨p, ids, r1, r2⟩ := (hv h ho).at_ i h1
    have hxi := hlt i h1
    rw [List.drop_eq_getElem_cons h1, sumV] at he
    rw [run_loop]
    simp only [lp12_0, loopsOf, Try.f12, Option.getD_some, core1, fgr, execOp, opd, putT, put, nth, forgetL, bor, binInt, shiftB, intOp, List.nil_append, List.append_nil, decide_true, List.getD_cons_zero, hc]
    rw [opv_rd (r1 _ _)]
    simp only [core1, execOp, opd, putT, put, nth]
    rw [opv_rd (r2 _), words]
    simp only [core1, tyr, execOp, opd, putT, put, nth, zeroOf, cel, alloc, doAlloc, newRow]
    refine opv_all4 (arr_0 (upd_same _ _ _)) ti25 rfl fun b5 k5 => ?_
    have k5 := pick_wd k5
    have s5 : ∀ j, j < n → (upd (upd h n (some (Blk.row (Cont.l [AVal.int IntKind.u64 0, AVal.int IntKind.u64 0, AVal.int IntKind.u64 0, AVal.int IntKind.u64 0]) 25))) n (some b5)) j = h j := fun j hj => by rw [upd_ne _ _ (by omega), upd_ne _ _ (by omega)]
    have f5 : Free (upd (upd h n (some (Blk.row (Cont.l [AVal.int IntKind.u64 0, AVal.int IntKind.u64 0, AVal.int IntKind.u64 0, AVal.int IntKind.u64 0]) 25))) n (some b5)) (n + 1) := hf.new.upd (by omega)
    generalize upd (upd h n (some (Blk.row (Cont.l [AVal.int IntKind.u64 0, AVal.int IntKind.u64 0, AVal.int IntKind.u64 0, AVal.int IntKind.u64 0]) 25))) n (some b5) = H5 at *
    have a3 := a3.keep (s5 _ b3)
    have a2 := a2.keep (s5 _ b2)
    simp only [core1, fgr, execOp, opd, putT, nth, forgetL]
    rw [opv_rd (a3.all ti25 rfl rfl), range4]
    simp only [core1, execOp, opd, putT, put, nth]
    rw [opv_rd (k5.all ti25 rfl rfl), range4]
    simp only [core1, hkr, execOp, opd, opds, putT, put, nth, doCall, callV_func, List.nil_append, List.append_nil]
    refine opv_callf f5 (f27 s ns[i] H5 (n + 1) hs hxi f5) fun v6 H6 n6 hn6 f6 ⟨e6, o6⟩ => ?_
    subst e6
    have a3 := a3.keep (o6 _ (by omega))
    have a2 := a2.keep (o6 _ (by omega))
    simp only [core1, tyr, execOp, opd, putT, put, nth, zeroOf, cel, alloc, doAlloc, newRow, extract, getO, List.getElem?_cons_succ, List.getElem?_cons_zero, W]
    refine opv_all4 (arr_0 (upd_same _ _ _)) ti25 rfl fun b7 k7 => ?_
    have k7 := pick_wd k7
    have s7 : ∀ j, j < n6 → (upd (upd H6 n6 (some (Blk.row (Cont.l [AVal.int IntKind.u64 0, AVal.int IntKind.u64 0, AVal.int IntKind.u64 0, AVal.int IntKind.u64 0]) 25))) n6 (some b7)) j = H6 j := fun j hj => by rw [upd_ne _ _ (by omega), upd_ne _ _ (by omega)]
    have f7 : Free (upd (upd H6 n6 (some (Blk.row (Cont.l [AVal.int IntKind.u64 0, AVal.int IntKind.u64 0, AVal.int IntKind.u64 0, AVal.int IntKind.u64 0]) 25))) n6 (some b7)) (n6 + 1) := f6.new.upd (by omega)
    generalize upd (upd H6 n6 (some (Blk.row (Cont.l [AVal.int IntKind.u64 0, AVal.int IntKind.u64 0, AVal.int IntKind.u64 0, AVal.int IntKind.u64 0]) 25))) n6 (some b7) = H7 at *
    have a3 := a3.keep (s7 _ (by omega))
    have a2 := a2.keep (s7 _ (by omega))
    have ho7 : Old h0 H7 N := fun j hj => by rw [s7 j (by omega), o6 j (by omega), s5 j (by omega)]; exact ho j hj
    by_cases c : b256 ≤ s + ns[i]
    · have cd := decide_eq_true c
      rw [if_pos c] at he
      simp only [core1, tyr, fgr, hkr, execOp, opd, opds, ops2, putT, put, nth, forgetL, doCall, callV_func, sizeOf, cel, getO, List.nil_append, List.append_nil, build, fill, cd]
      refine opv_callf f7 (f38 0 H7 _ (by decide) f7) fun v8 H8 n8 hn8 f8 ⟨e8, o8⟩ => ?_
      subst e8
      simp only [core1, execOp, opd, putT, put, nth, W]
      refine opv_all4 (a2.keep (o8 _ (by omega))) ti25 rfl fun b9 k9 => ?_
      have k9 := pick_wd k9
      simp only [core1, fgr, putT, forgetL]
      refine hR _ _ _ _ _ _ _ _ _ _ _ _ (k9.ext fun j hj => by rw [he]; rfl) (fun j hj => ?_)
      rw [upd_ne _ _ (by omega), o8 j (by omega)]; exact ho7 j hj
    · have cd := decide_eq_false c
      rw [if_neg c] at he
      rw [Nat.mod_eq_of_lt (by omega)] at k7
      simp only [core1, fgr, execOp, opd, putT, put, nth, forgetL, cd]
      rw [opv_rd (k7.all ti25 rfl rfl), range4]
      simp only [core1, execOp, opd, putT, put, nth]
      refine opv_all4 a3 ti25 rfl fun b8 k8 => ?_
      have k8 := pick_wd k8
      simp only [core1, fgr, execOp, opd, ofValue, putT, put, nth, forgetL, bor, binInt, shiftB, intOp, wrapI, decide_true, hw]
      refine ih (i + 1) (s + ns[i]) _ _ _ _ _ _ _ _ (by omega) (by omega) he (a2.upd d) k8 (by omega) (by omega) (f7.upd (by omega)) (fun j hj => ?_)
      rw [upd_ne _ _ (by omega)]; exact ho7 j hj
theorem f12 (v : AVal) (ns : List Nat) (h : Hp) (n : Nat) (hl : ns.length ≤ maxLen) (hv : ∀ h', Old h h' n → WsR h' v ns) (hf : Free h n) : Wp (callI env (evalW env) 12 [v]) h n fun v' h' n' => v' = W (sumV ns 0) ∧ Old h h' n := by
  refine wp_callI ff12 fi12 ?_
  simp only [fu12, Try.f12, Option.getD_some, List.replicate, core1, tyr, fgr, execOp, opd, opds, ofValue, putT, put, nth, forgetL, doCall, builtin, one1, zeroOf, cel, alloc, doAlloc, newRow, ended, resultOf, oneOrTup, List.cons_append, List.nil_append, List.length_cons, List.length_nil, Nat.reduceSub, Nat.zero_add, (hv h (Old.refl _ _)).len]
  refine loop12 _ _ v ns n n (n + 1) hl (by omega) (by omega) h hv (hv h (Old.refl _ _)).lt ?_ ?_ ns.length 0 0 _ (n + 1 + 1) _ _ _ _ _ _ (Nat.zero_add _) (by decide) rfl (arr_0 (by rw [upd_ne _ _ (by omega)]; exact upd_same _ _ _)) ((arr_0 (upd_same _ _ _)).ext fun j hj => by unfold wd; simp) (by omega) (by omega) hf.new.new (fun j hj => by rw [upd_ne _ _ (by omega), upd_ne _ _ (by omega)])
  · intro h' n' x0 x5 x6 x7 x8 x9 x10 x11 x20 a2 a3 ho
    simp only [core1, execOp, opd, nth]
    rw [opv_rd (a3.all ti25 rfl rfl), range4]
    simp only [core1, execOp, opd, putT, put, nth]
    refine opv_all4 a2 ti25 rfl fun bb hbb => ?_
    simp only [core1, fgr, putT, nth, forgetL, true_and, wp_pure, wp_det (hbb.all ti25 rfl rfl).wp, range4, pick4]
    exact ⟨rfl, fun j hj => by rw [upd_ne _ _ (by omega)]; exact ho j hj⟩
  · intro h' n' x0 x3 x5 x6 x7 x8 x9 x10 x11 x20 a2 ho
    simp only [core1, nth, true_and, wp_pure, wp_rd (a2.all ti25 rfl rfl), range4]
    exact ⟨rfl, ho⟩
/- Sums of rows: the document's. -/
theorem loop13 (Q : Post0) (ks : List Kf) (v : AVal) (ns : List Nat) (N i2 i3 : Nat) (hl : ns.length ≤ maxLen) (d : i2 ≠ i3) (hN : N ≤ i2 ∧ N ≤ i3) (h0 : Hp) (hv : ∀ h, Old h0 h N → WsR h v ns) (hlt : ∀ j (hj : j < ns.length), ns[j] < b256) (hids : ∀ h, Old h0 h N → ∀ j (hj : j < ns.length), ∃ p, (∀ h' n', Rd (indexAddr env 22 v (.int .i64 (j : Nat))) h' n' [] p) ∧ ∀ n, Rd (load env 25 p) h n [] (.agg (words ns[j])))
    (hE : ∀ (h : Hp) (n : Nat) (x0 x4 x5 x6 x11 x23 : AVal), Arr .u64 h i2 4 (fun _ => 0) → Arr .u64 h i3 4 (fun j => (wd (sumV ns 0) j : Nat)) → Old h0 h N → Kont env 13 none Q ks (.exit 0) (x0 :: AVal.junk :: .ptr i2 0 :: .ptr i3 0 :: x4 :: x5 :: x6 :: AVal.junk :: AVal.junk :: AVal.junk :: AVal.junk :: x11 :: AVal.junk :: AVal.junk :: AVal.junk :: AVal.junk :: AVal.junk :: AVal.junk :: AVal.junk :: AVal.junk :: AVal.junk :: AVal.junk :: AVal.junk :: x23 :: AVal.junk :: AVal.junk :: AVal.junk :: AVal.junk :: []) h n)
    (hR : ∀ (h : Hp) (n : Nat) (x0 x3 x4 x5 x6 x11 x23 : AVal), Arr .u64 h i2 4 (fun j => (wd (sumV ns 0) j : Nat)) → Old h0 h N → Kont env 13 none Q ks .ret (x0 :: AVal.junk :: .ptr i2 0 :: x3 :: x4 :: x5 :: x6 :: AVal.junk :: AVal.junk :: AVal.junk :: AVal.junk :: x11 :: AVal.junk :: AVal.junk :: AVal.junk :: AVal.junk :: AVal.junk :: AVal.junk :: AVal.junk :: AVal.junk :: AVal.junk :: AVal.junk :: AVal.junk :: x23 :: AVal.junk :: AVal.junk :: AVal.junk :: AVal.junk :: []) h n) :
    ∀ (k i s : Nat) (h : Hp) (n : Nat) (x5 x6 x11 x23 : AVal), i + k = ns.length → s < b256 → sumV ns 0 = sumV (ns.drop i) s → Arr .u64 h i2 4 (fun _ => 0) → Arr .u64 h i3 4 (fun j => (wd s j : Nat)) → i2 < n → i3 < n → Free h n → Old h0 h N →
    Run env 13 none Q (.loop lp13_0) ks (v :: AVal.junk :: .ptr i2 0 :: .ptr i3 0 :: .int .i64 (i : Nat) :: x5 :: x6 :: AVal.junk :: AVal.junk :: AVal.junk :: AVal.junk :: x11 :: AVal.junk :: AVal.junk :: AVal.junk :: AVal.junk :: AVal.junk :: AVal.junk :: AVal.junk :: AVal.junk :: AVal.junk :: AVal.junk :: AVal.junk :: x23 :: AVal.junk :: AVal.junk :: AVal.junk :: AVal.junk :: []) h n := by
  have hml : maxLen = 9223372036854775807 := rfl
  intro k
  induction k with
  | zero =>
    intro i s h n x5 x6 x11 x23 hi hs he a2 a3 b2 b3 hf ho
    have : i = ns.length := by omega
    subst this
    rw [List.drop_length, sumV] at he
    have hc : ¬ ((ns.length : Nat) : Int) < ((ns.length : Nat) : Int) := by omega
    rw [run_loop]
    simp only [lp13_0, loopsOf, Try.f13, Option.getD_some, core1, fgr, execOp, opd, opds, putT, put, nth, forgetL, doCall, builtin, one1, bor, binInt, shiftB, intOp, List.nil_append, List.append_nil, decide_true, decide_false, List.getD_cons_zero, (hv h ho).len, hc]
    exact hE h n _ _ _ _ _ _ a2 (a3.ext fun j hj => by rw [he]) ho
  | succ k ih =>
    intro i s h n x5 x6 x11 x23 hi hs he a2 a3 b2 b3 hf ho
    have h1 : i < ns.length := by omega
    have hc : ((i : Nat) : Int) < ((ns.length : Nat) : Int) := by omega
    have hw : IntKind.i64.wrap (((i : Nat) : Int) + 1) = ((i + 1 : Nat) : Int) := by rw [w64 (by omega) (by omega)]; omega
    obtain ⟨p, r1, r2⟩ := hids h ho i h1
    have hxi := hlt i h1
    rw [List.drop_eq_getElem_cons h1, sumV] at he
    rw [run_loop]
    simp only [lp13_0, loopsOf, Try.f13, Option.getD_some, core1, fgr, execOp, opd, opds, putT, put, nth, forgetL, doCall, builtin, one1, bor, binInt, shiftB, intOp, List.nil_append, List.append_nil, decide_true, List.getD_cons_zero, (hv h ho).len, hc]
    refine run_draw.2 ⟨rfl, ?_⟩
    simp only [fe_cons, execOp, opd, nth]
    rw [fev_rd (a3.all ti25 rfl rfl), range4]
    simp only [fe_cons, fev_pure, execOp, opd, putT, put, nth, Nat.reduceAdd, Nat.zero_add]
    rw [fev_rd (r1 _ _)]
    simp only [fe_cons, execOp, opd, putT, put, nth, Nat.reduceAdd]
    rw [fev_rd (r2 _), words]
    simp only [fe_cons, hkr, execOp, opd, opds, putT, put, nth, doCall, callV_func, List.nil_append, List.append_nil, Nat.reduceAdd]
    refine fev_free hf (f47 s ns[i] _ _ hs hxi Free.none) (f47 s ns[i] _ _ hs hxi hf) fun v6 H6 n6 hn6 f6 ⟨e6, o6⟩ => ?_
    subst e6
    simp only [fe_cons, fev_pure, core1, tyr, execOp, opd, putT, put, nth, zeroOf, cel, alloc, doAlloc, newRow, extract, getO, List.getElem?_cons_succ, List.getElem?_cons_zero, Nat.reduceAdd, W]
    refine fev_free f6 (al25 _ _) (al25 _ _) fun v7 H7 n7 hn7 f7 ⟨e7, a7, o7, en7⟩ => ?_
    subst e7; subst en7
    simp only [fe_cons, execOp, opd, putT, put, nth, Nat.reduceAdd]
    refine fev_all4 a7 ti25 rfl fun b8 k8 => ?_
    have k8 := pick_wd k8
    simp only [fe_nil, fe_cons, fev_pure, core1, fgr, execOp, opd, putT, put, nth, forgetL, Nat.reduceAdd]
    refine ⟨(by (try simp (disch := omega) only [fine, List.all_cons, List.all_nil, clash_pl, clash_pr, Bool.not_false, Bool.true_or, Bool.and_true, Bool.true_and, clash_rw, clash_nn, clash_nw, clash_xn]); repeat' (first | rfl | exact (Bool.or_eq_true _ _).mpr (.inr rfl) | refine (Bool.and_eq_true _ _).mpr ⟨?_, ?_⟩)), ?_⟩
    have a3 := ((a3.keep (o6 _ b3)).keep (o7 _ (by omega))).upd (i := n6) (b := some b8) (by omega)
    have a2 := ((a2.keep (o6 _ b2)).keep (o7 _ (by omega))).upd (i := n6) (b := some b8) (by omega)
    have ho8 : Old h0 (upd H7 n6 (some b8)) N := fun j hj => by rw [upd_ne _ _ (by omega), o7 j (by omega), o6 j (by omega)]; exact ho j hj
    have f8 : Free (upd H7 n6 (some b8)) (n6 + 1) := f7.upd (by omega)
    generalize upd H7 n6 (some b8) = H8 at *
    by_cases c : b256 ≤ s + ns[i]
    · have cd := decide_eq_true c
      rw [if_pos c] at he
      simp only [core1, tyr, hkr, execOp, opd, opds, ops2, putT, put, nth, doCall, callV_func, sizeOf, cel, getO, List.nil_append, List.append_nil, build, fill, cd]
      refine opv_callf f8 (f49 0 H8 _ (by decide) f8) fun v9 H9 n9 hn9 f9 ⟨e9, o9⟩ => ?_
      subst e9
      simp only [core1, execOp, opd, putT, put, nth, W]
      refine opv_all4 (a2.keep (o9 _ (by omega))) ti25 rfl fun b9 k9 => ?_
      have k9 := pick_wd k9
      simp only [core1, fgr, putT, forgetL]
      refine hR _ _ _ _ _ _ _ _ _ (k9.ext fun j hj => by rw [he]; rfl) (fun j hj => ?_)
      rw [upd_ne _ _ (by omega), o9 j (by omega)]; exact ho8 j hj
    · have cd := decide_eq_false c
      rw [if_neg c] at he
      rw [Nat.mod_eq_of_lt (by omega)] at k8
      simp only [core1, execOp, opd, nth, cd]
      rw [opv_rd (k8.all ti25 rfl rfl), range4]
      simp only [core1, execOp, opd, putT, put, nth]
      refine opv_all4 a3 ti25 rfl fun b9 k9 => ?_
      have k9 := pick_wd k9
      simp only [core1, fgr, execOp, opd, ofValue, putT, put, nth, forgetL, bor, binInt, shiftB, intOp, wrapI, decide_true, hw]
      refine ih (i + 1) (s + ns[i]) _ _ _ _ _ _ (by omega) (by omega) he (a2.upd d) k9 (by omega) (by omega) (f8.upd (by omega)) (fun j hj => ?_)
      rw [upd_ne _ _ (by omega)]; exact ho8 j hj
theorem ArgW.rd {v : AVal} {ns : List Nat} (hv : ArgW v ns) (h : Hp) (j : Nat) (hj : j < ns.length) : ∃ p, (∀ h' n', Rd (indexAddr env 22 v (.int .i64 (j : Nat))) h' n' [] p) ∧ ∀ n, Rd (load env 25 p) h n [] (.agg (words ns[j])) := by
  cases hv with
  | nils => cases hj
  | isl f ns hl hc =>
    refine ⟨.ip f (0 + ns.length * 4) (0 + j * 4), fun h' n' => ?_, fun n => ?_⟩
    · have hu : und env 22 = M.pure (.slice 25) := rfl
      have hz : sizeOf env 25 = M.pure 4 := rfl
      simp only [indexAddr, hu, hz, bind_pure, intK, slK, idx, bind_assoc, Int.toNat_natCast]
      exact Rd.bind (i2 := []) (Rd.ob (by simp; omega)) (Rd.pure _)
    · have hi : ti env 25 = M.pure ty25.i := rfl
      have ha : aggB ty25.i.desc = true := rfl
      simp only [load, hi, bind_pure, ha, readCells, bind_assoc]
      refine Rd.bind (i2 := []) (Rd.ob (ble_of (by show 0 + j * 4 + 4 ≤ _; omega))) ?_
      show Rd (M.pure (AVal.agg (cellsOf f (0 + j * 4) 4))) h n [] _
      rw [Nat.zero_add, (hc j hj).2]
      exact Rd.pure _
theorem f13 (v : AVal) (ns : List Nat) (hv : ArgW v ns) (h : Hp) (n : Nat) (hf : Free h n) : Wp (callI env (evalW env) 13 [v]) h n fun v' h' n' => v' = W (sumV ns 0) ∧ Old h h' n := by
  refine wp_callI ff13 fi13 ?_
  simp only [fu13, Try.f13, Option.getD_some, List.replicate, core1, tyr, fgr, execOp, opd, ops2, putT, put, nth, forgetL, sizeOf, zeroOf, cel, alloc, doAlloc, newRow, getO, ended, resultOf, oneOrTup, List.cons_append, List.nil_append, List.length_cons, List.length_nil, Nat.reduceSub, Nat.zero_add, build, fill, List.length_cons, List.length_nil]
  refine opv_all4 (arr_0 (upd_same _ _ _)) ti25 rfl fun b5 k5 => ?_
  have k5 : Arr .u64 _ (n + 1) 4 (fun j => (wd 0 j : Nat)) := k5.ext fun j hj => by
    match j, hj with
    | 0, _ => rfl
    | 1, _ => rfl
    | 2, _ => rfl
    | 3, _ => rfl
  simp only [core1, fgr, execOp, opd, ofValue, putT, put, forgetL]
  refine loop13 _ _ v ns n n (n + 1) hv.short (by omega) (by omega) h (fun h' _ => hv.r h') (hv.r h).lt (fun h' _ => hv.rd h') ?_ ?_ ns.length 0 0 _ (n + 1 + 1) _ _ _ _ (Nat.zero_add _) (by decide) rfl (arr_0 (by rw [upd_ne _ _ (by omega), upd_ne _ _ (by omega)]; exact upd_same _ _ _)) k5 (by omega) (by omega) ((hf.new.new).upd (by omega)) (fun j hj => by simp (disch := omega) only [upd_ne])
  · intro h' n' x0 x4 x5 x6 x11 x23 a2 a3 ho
    simp only [core1, execOp, opd, nth]
    rw [opv_rd (a3.all ti25 rfl rfl), range4]
    simp only [core1, execOp, opd, putT, put, nth]
    refine opv_all4 a2 ti25 rfl fun bb hbb => ?_
    simp only [core1, fgr, putT, nth, forgetL, true_and, wp_pure, wp_rd (hbb.all ti25 rfl rfl), range4, pick4]
    exact ⟨rfl, fun j hj => by rw [upd_ne _ _ (by omega)]; exact ho j hj⟩
  · intro h' n' x0 x3 x4 x5 x6 x11 x23 a2 ho
    simp only [core1, nth, true_and, wp_pure, wp_rd (a2.all ti25 rfl rfl), range4]
    exact ⟨rfl, ho⟩
/- Sums of any works, and any number scaled, or the error, are the document's; works stay. -/
theorem arg_w {vs : List AVal} (ha : Arg Try.prog 25 vs) : ∃ a, a < b256 ∧ vs = words a := by
  have hc25 : Try.prog.cellsOf 25 = 4 := by kernel_rfl
  have hc23 : Try.prog.cellsOf 23 = 1 := by kernel_rfl
  have hl := (ha.array_inv Try.underlying25).1
  rw [hc25] at hl
  have e1 : vs = cut (fun j => vs.getD j .junk) 0 4 := by
    match vs, hl with
    | [a, b, c, d], _ => rfl
  have e2 : vs = cellsOf (fun j => vs.getD j .junk) 0 4 := by
    match vs, hl with
    | [a, b, c, d], _ => rfl
  rw [e1] at ha
  obtain ⟨a, h1, h2⟩ := words_of (f := fun j => vs.getD j .junk) (o := 0) Try.underlying25 Try.underlying23 hc25 hc23 ha
  exact ⟨a, h1, by rw [e2]; exact h2⟩
def scaleQ (t by_ of most : Nat) : Nat := (scaleV t by_ of most).getD 0
def scaleE (t by_ of most : Nat) : Int := match scaleV t by_ of most with | none => 50 | some _ => 0
theorem scaleA_eq (t by_ of most : Nat) : scaleA t by_ of most = .tup [W (scaleQ t by_ of most), .int .i64 (scaleE t by_ of most)] := by
  unfold scaleA scaleQ scaleE
  cases scaleV t by_ of most <;> rfl
theorem scaleQ_lt {t by_ of most : Nat} (hm : most < b256) : scaleQ t by_ of most < b256 := by
  unfold scaleQ scaleV
  split
  · decide
  · show (if _ then _ else _) < b256
    split
    · exact hm
    · rename_i h
      split
      · decide
      · exact Nat.lt_of_le_of_lt (Nat.le_of_not_lt h) hm
/-- Numbers in memory of their own. -/
theorem own_ws {h : Hp} {id e : Nat} {cap : Option Nat} {cs : List AVal} {ns : List Nat} (hh : h id = some (.row (.l cs) e)) (hlt : ∀ j (hj : j < ns.length), ns[j] < b256) (hl : ns.length * 4 ≤ cs.length) (hc : ∀ j (hj : j < ns.length), (cs.drop (j * 4)).take 4 = words ns[j]) : WsR h (.sl id 0 ns.length cap 4) ns := by
  refine ⟨fun ts => rfl, hlt, fun j hj => ⟨.ptr id (0 + j * 4), [id], fun h' n' => ?_, fun n => ?_⟩⟩
  · have hu : und env 22 = M.pure (.slice 25) := rfl
    have hz : sizeOf env 25 = M.pure 4 := rfl
    simp only [indexAddr, hu, hz, bind_pure, intK, slK, idx, bind_assoc, Int.toNat_natCast]
    exact Rd.bind (i2 := []) (Rd.ob (by simp; omega)) (Rd.pure _)
  · have hi : ti env 25 = M.pure ty25.i := rfl
    have ha : aggB ty25.i.desc = true := rfl
    simp only [load, hi, bind_pure, ha, readCells, bind_assoc]
    refine Rd.bind (i2 := []) (Rd.get hh) ?_
    simp only [rowK, bind_assoc]
    refine Rd.bind (i2 := []) (Rd.ob (ble_of (by show 0 + j * 4 + 4 ≤ cs.length; omega))) ?_
    show Rd (M.pure (AVal.agg ((cs.drop (0 + j * 4)).take 4))) h n [] _
    rw [Nat.zero_add, hc j hj]
    exact Rd.pure _
theorem cellsOf_len (f : Nat → AVal) : ∀ (m o : Nat), (cellsOf f o m).length = m := by
  intro m
  induction m with
  | zero => intro o; rfl
  | succ m ih => intro o; simp [cellsOf, ih]
theorem cellsOf_part (f : Nat → AVal) : ∀ (m o a b : Nat), a + b ≤ m → ((cellsOf f o m).drop a).take b = cellsOf f (o + a) b := by
  intro m
  induction m with
  | zero =>
    intro o a b h
    have ha : a = 0 := by omega
    have hb : b = 0 := by omega
    subst ha; subst hb; rfl
  | succ m ih =>
    intro o a b h
    cases a with
    | zero =>
      cases b with
      | zero => rfl
      | succ b =>
        have := ih (o + 1) 0 b (by omega)
        simp only [cellsOf, List.drop_zero, List.take_succ_cons, Nat.add_zero] at this ⊢
        rw [this]
    | succ a =>
      have := ih (o + 1) a b (by omega)
      simp only [cellsOf, List.drop_succ_cons]
      rw [this]
      congr 1
      omega
theorem wp_app_ws {h : Hp} {n id : Nat} {x : AVal} {ns : List Nat} (hid : id < n) (hh : h id = some (.row (.l []) 25)) (hx : ArgW x ns) (hl : ns.length ≤ 50) :
    Wp (bAppend env [22, 22] (.sl id 0 0 (some 0) 4) x) h n fun v' h' n' => WsR h' v' ns ∧ (∃ i, ownId v' = some i ∧ i < n' ∧ (i = id ∨ i = n)) ∧ isJunk v' = false ∧ v'.cells = [v'] ∧ oneCell v' = true ∧ (∀ j, j ≠ n → j ≠ id → h' j = h j) ∧ (∀ h2, (∀ i, ownId v' = some i → h2 i = h' i) → WsR h2 v' ns) ∧ n ≤ n' := by
  by_cases h0 : ns = []
  · subst h0
    have hlen : lenOf x = M.pure 0 := by cases hx <;> rfl
    have hu : und env 22 = M.pure (.slice 25) := rfl
    have key : ∀ h2 : Hp, WsR h2 (.sl id 0 0 (some 0) 4) [] := fun h2 => ⟨fun ts => rfl, fun j hj => (by cases hj), fun j hj => (by cases hj)⟩
    have : Wp (bAppend env [22, 22] (.sl id 0 0 (some 0) 4) x) h n fun v' h' n' => v' = .sl id 0 0 (some 0) 4 ∧ h' = h ∧ n' = n := by
      have hi : ti env 25 = M.pure ty25.i := rfl
      simp only [bAppend, hu, bind_pure, intB, append, hi, hlen, Nat.beq_refl, wp_ask]
      exact wp_pure.2 ⟨rfl, rfl, rfl⟩
    refine wp_mono this fun v' h' n' hh' => ?_
    obtain ⟨rfl, rfl, rfl⟩ := hh'
    exact ⟨key _, ⟨id, rfl, hid, .inl rfl⟩, rfl, rfl, rfl, fun _ _ _ => rfl, fun h2 _ => key h2, Nat.le_refl _⟩
  · cases hx with
    | nils => exact absurd rfl h0
    | isl f ns hml hc =>
      have hpos := List.length_pos_iff.2 h0
      have hone : (cellsOf f 0 (ns.length * 4)).all oneCell = true := by
        rw [List.all_eq_true]
        intro v hv
        obtain ⟨j, hj, rfl⟩ := List.getElem_of_mem hv
        rw [cellsOf_len] at hj
        have h1 := cellsOf_part f (ns.length * 4) 0 j 1 (by omega)
        have h2 : (cellsOf f 0 (ns.length * 4))[j]'(by rw [cellsOf_len]; exact hj) = f (0 + j) := by
          have h3 : (((cellsOf f 0 (ns.length * 4)).drop j).take 1)[0]? = some (f (0 + j)) := by rw [h1]; rfl
          rw [List.getElem?_take_of_lt (by decide), List.getElem?_drop, Nat.add_zero, List.getElem?_eq_getElem (by rw [cellsOf_len]; exact hj)] at h3
          exact Option.some.inj h3
        rw [h2, Nat.zero_add]
        obtain ⟨_, hw⟩ := hc (j / 4) (by omega)
        have hj4 : j = j / 4 * 4 + j % 4 := by omega
        have hw' : [f (j / 4 * 4), f (j / 4 * 4 + 1), f (j / 4 * 4 + 1 + 1), f (j / 4 * 4 + 1 + 1 + 1)] = words ns[j / 4] := hw
        simp only [words, List.cons.injEq, and_true] at hw'
        obtain ⟨w0, w1, w2, w3⟩ := hw'
        have hr : j % 4 < 4 := Nat.mod_lt _ (by decide)
        rw [hj4]
        generalize j / 4 * 4 = q at *
        match j % 4, hr with
        | 0, _ => rw [Nat.add_zero, w0]; rfl
        | 1, _ => rw [w1]; rfl
        | 2, _ => rw [show q + 2 = q + 1 + 1 from rfl, w2]; rfl
        | 3, _ => rw [show q + 3 = q + 1 + 1 + 1 from rfl, w3]; rfl
      refine wp_append_x (i := ty25.i) (e := 25) (xs := []) (ys := cellsOf f 0 (ns.length * 4)) (cnt := 0) (k := ns.length) (.full id 0 [] 25 hid hh rfl) rfl rfl (show ti env 25 = M.pure ty25.i from rfl) rfl ?_ (cellsOf_len _ _ _) hpos (by decide) hone (by show 2 * (0 + ns.length) * 32 ≤ _; omega) (by omega) ?_
      · intro α g Q
        show Wp ((sliceCells 4 ns.length (AVal.isl f 4 0 ns.length)).bind g) _ _ _ ↔ _
        simp only [sliceCells, sameSz, bind_assoc, wp_ob, bind_pure, Nat.ble_self_eq_true, true_and]
      · intro h' hh' hold
        rw [List.nil_append] at hh'
        have key : ∀ h2 : Hp, h2 n = h' n → WsR h2 (.sl n 0 ns.length none 4) ns := fun h2 e2 => own_ws (e2.trans hh') (fun j hj => (hc j hj).1) (by rw [cellsOf_len]; exact Nat.le_refl _) (fun j hj => by rw [cellsOf_part _ _ _ _ _ (by omega), Nat.zero_add]; exact (hc j hj).2)
        refine ⟨?_, ⟨n, rfl, by omega, .inr rfl⟩, rfl, rfl, rfl, fun j h1 h2 => hold j h1 (fun q => h2 (by injection q with q; exact q.symm)), fun h2 e2 => ?_, by omega⟩
        · rw [Nat.zero_add]; exact key h' rfl
        · rw [Nat.zero_add]; exact key h2 (e2 n rfl)
/- Sums of any works, and any number scaled, or the error, are the document's; works stay. -/
theorem loop3 (Q : Post0) (ks : List Kf) (a0 v : AVal) (ns : List Nat) (ha : ArgW a0 ns) (hl : ns.length ≤ 50) 
    (hE : ∀ (h : Hp) (n : Nat) (x1 x2 x3 x4 x6 x9 x10 x12 x13 x14 x15 x16 x19 x53 x55 x56 x57 x67 : AVal), Kont env 3 none Q ks (.exit 0) (a0 :: x1 :: x2 :: x3 :: x4 :: AVal.junk :: x6 :: AVal.junk :: AVal.junk :: x9 :: x10 :: v :: x12 :: x13 :: x14 :: x15 :: x16 :: AVal.junk :: AVal.junk :: x19 :: AVal.junk :: AVal.junk :: AVal.junk :: AVal.junk :: AVal.junk :: AVal.junk :: AVal.junk :: AVal.junk :: AVal.junk :: AVal.junk :: AVal.junk :: AVal.junk :: AVal.junk :: AVal.junk :: AVal.junk :: AVal.junk :: AVal.junk :: AVal.junk :: AVal.junk :: AVal.junk :: AVal.junk :: AVal.junk :: AVal.junk :: AVal.junk :: AVal.junk :: AVal.junk :: AVal.junk :: AVal.junk :: AVal.junk :: AVal.junk :: AVal.junk :: AVal.junk :: AVal.junk :: x53 :: AVal.junk :: x55 :: x56 :: x57 :: AVal.junk :: AVal.junk :: AVal.junk :: AVal.junk :: AVal.junk :: AVal.junk :: AVal.junk :: AVal.junk :: AVal.junk :: x67 :: AVal.junk :: []) h n) :
    ∀ (k i : Nat) (h : Hp) (n : Nat) (x1 x2 x3 x4 x6 x9 x10 x12 x13 x14 x15 x16 x19 x53 x57 x67 : AVal), i + k = ns.length → WsR h v ns → 
    Run env 3 none Q (.loop lp3_0) ks (a0 :: x1 :: x2 :: x3 :: x4 :: AVal.junk :: x6 :: AVal.junk :: AVal.junk :: x9 :: x10 :: v :: x12 :: x13 :: x14 :: x15 :: x16 :: AVal.junk :: AVal.junk :: x19 :: AVal.junk :: AVal.junk :: AVal.junk :: AVal.junk :: AVal.junk :: AVal.junk :: AVal.junk :: AVal.junk :: AVal.junk :: AVal.junk :: AVal.junk :: AVal.junk :: AVal.junk :: AVal.junk :: AVal.junk :: AVal.junk :: AVal.junk :: AVal.junk :: AVal.junk :: AVal.junk :: AVal.junk :: AVal.junk :: AVal.junk :: AVal.junk :: AVal.junk :: AVal.junk :: AVal.junk :: AVal.junk :: AVal.junk :: AVal.junk :: AVal.junk :: AVal.junk :: AVal.junk :: x53 :: AVal.junk :: .int .i64 (ns.length : Nat) :: .int .i64 (i : Nat) :: x57 :: AVal.junk :: AVal.junk :: AVal.junk :: AVal.junk :: AVal.junk :: AVal.junk :: AVal.junk :: AVal.junk :: AVal.junk :: x67 :: AVal.junk :: []) h n := by
  intro k
  induction k with
  | zero =>
    intro i h n x1 x2 x3 x4 x6 x9 x10 x12 x13 x14 x15 x16 x19 x53 x57 x67 hi hv
    have hc : ¬ ((i : Nat) : Int) < ((ns.length : Nat) : Int) := by omega
    rw [run_loop]
    simp only [lp3_0, loopsOf, Try.f3, Option.getD_some, core1, fgr, execOp, opd, putT, put, nth, forgetL, bor, binInt, shiftB, intOp, List.append_eq, List.cons_append, List.nil_append, List.append_nil, decide_true, decide_false, List.getD_cons_zero, hc]
    exact hE h n _ _ _ _ _ _ _ _ _ _ _ _ _ _ _ _ _ _
  | succ k ih =>
    intro i h n x1 x2 x3 x4 x6 x9 x10 x12 x13 x14 x15 x16 x19 x53 x57 x67 hi hv
    have h1 : i < ns.length := by omega
    have hc : ((i : Nat) : Int) < ((ns.length : Nat) : Int) := by omega
    have hw : IntKind.i64.wrap (((i : Nat) : Int) + 1) = ((i + 1 : Nat) : Int) := by rw [w64 (by omega) (by omega)]; omega
    obtain ⟨p, ids, r1, r2⟩ := hv.at_ i h1
    obtain ⟨q, ids2, s1, s2⟩ := (ha.r h).at_ i h1
    have hxi := hv.lt i h1
    rw [run_loop]
    simp only [lp3_0, loopsOf, Try.f3, Option.getD_some, core1, fgr, execOp, opd, putT, put, nth, forgetL, bor, binInt, shiftB, intOp, List.append_eq, List.cons_append, List.nil_append, List.append_nil, decide_true, List.getD_cons_zero, hc]
    refine run_draw.2 ⟨rfl, ?_⟩
    simp only [fe_cons, fev_pure, execOp, opd, putT, put, nth, Nat.reduceAdd, Nat.zero_add]
    rw [fev_rd (r1 _ _)]
    simp only [fe_cons, execOp, opd, putT, put, nth, Nat.reduceAdd]
    rw [fev_rd (r2 _), words]
    simp only [fe_cons, fev_pure, execOp, opd, putT, put, nth, Nat.reduceAdd]
    rw [fev_rd (s1 _ _)]
    simp only [fe_cons, execOp, opd, putT, put, nth, Nat.reduceAdd]
    rw [fev_rd (s2 _), words]
    have ee := eq_agg hxi hxi
    simp only [fe_nil, fe_cons, fev_pure, core1, fgr, execOp, opd, ofValue, putT, put, nth, forgetL, bor, binInt, binOther, shiftB, intOp, wrapI, Nat.reduceAdd, decide_true, Bool.not_true, ee, decide_true]
    refine ⟨(by (try simp (disch := omega) only [fine, List.all_cons, List.all_nil, clash_pr, clash_rr, Bool.not_false, Bool.true_or, Bool.and_true]); repeat' (first | rfl | exact (Bool.or_eq_true _ _).mpr (.inr rfl) | refine (Bool.and_eq_true _ _).mpr ⟨?_, ?_⟩)), ?_⟩
    simp only [hw]
    exact ih (i + 1) h n _ _ _ _ _ _ _ _ _ _ _ _ _ _ _ _ (by omega) hv
set_option maxHeartbeats 4000000 in
theorem law3 (a0 : AVal) (ha : Arg Try.prog 22 [a0]) (vt : List AVal) (ht : Arg Try.prog 25 vt) (by_ : Int) (w2 : (Lit.int .u64 by_).wf = true) (of : Int) (w3 : (Lit.int .u64 of).wf = true) (vm : List AVal) (hm : Arg Try.prog 25 vm) : Wp (callI env (evalW env) 3 [a0, .agg vt, .int .u64 by_, .int .u64 of, .agg vm]) (fun _ => none) 0 fun v _ _ => v = .bool true := by
  obtain ⟨ns, ha⟩ := arg_ws ha
  obtain ⟨t, lt, rfl⟩ := arg_w ht
  obtain ⟨most, lm, rfl⟩ := arg_w hm
  obtain ⟨b, hb, rfl⟩ : ∃ b : Nat, b < 18446744073709551616 ∧ by_ = (b : Nat) := by
    simp only [Lit.wf, Bool.and_eq_true, decide_eq_true_eq] at w2
    have h1 : IntKind.u64.min = 0 := rfl
    have h2 : IntKind.u64.max = 18446744073709551615 := rfl
    exact ⟨by_.toNat, by omega, by omega⟩
  obtain ⟨o, ho, rfl⟩ : ∃ b : Nat, b < 18446744073709551616 ∧ of = (b : Nat) := by
    simp only [Lit.wf, Bool.and_eq_true, decide_eq_true_eq] at w3
    have h1 : IntKind.u64.min = 0 := rfl
    have h2 : IntKind.u64.max = 18446744073709551615 := rfl
    exact ⟨of.toNat, by omega, by omega⟩
  refine wp_callI ff3 fi3 ?_
  by_cases hl : 50 < ((ns.length : Nat) : Int)
  · simp only [fu3, Try.f3, Option.getD_some, List.replicate, core1, tyr, fgr, execOp, opd, opds, ofValue, putT, put, nth, forgetL, doCall, builtin, one1, bor, binInt, shiftB, intOp, cel, alloc, newRow, ended, resultOf, oneOrTup, List.append_eq, List.cons_append, List.nil_append, List.length_cons, List.length_nil, Nat.reduceAdd, Nat.reduceSub, gt_iff_lt, decide_true, and_self, Nat.zero_add, wp_pure, (ha.r (fun _ => none)).len, hl, words]
  have hl2 : ns.length ≤ 50 := by omega
  simp only [fu3, Try.f3, Option.getD_some, List.replicate, core1, tyr, fgr, execOp, opd, opds, ofValue, ops2, putT, put, nth, forgetL, doCall, builtin, one1, bor, binInt, shiftB, intOp, cel, alloc, newRow, ended, resultOf, oneOrTup, List.append_eq, List.cons_append, List.nil_append, List.length_cons, List.length_nil, Nat.reduceAdd, Nat.reduceSub, gt_iff_lt, decide_true, decide_false, Nat.zero_add, wp_pure, (ha.r (fun _ => none)).len, hl, words]
  simp only [buildSlice, reps, fill, Nat.ble, Nat.zero_mul, core1, tyr, execOp, opd, opds, putT, put, nth, doCall, builtin, two2, und, newRow, getO, Nat.reduceAdd, Nat.zero_mul]
  have hf0 : Free (fun _ => none) 0 := Free.none
  refine opv_callf hf0.new.new.new (wp_app_ws (by omega) (upd_same _ _ _) ha hl2) fun v h4 n4 hn4 hf4 ⟨r4, ⟨io, eo, lo, wo⟩, nj, cc, oc, old4, keep4, le4⟩ => ?_
  have kt : Arr .u64 h4 0 4 (fun j => (wd t j : Nat)) := arr_W (by rw [old4 0 (by omega) (by omega), upd_ne _ _ (by omega), upd_ne _ _ (by omega)]; exact upd_same _ _ _)
  have km : Arr .u64 h4 1 4 (fun j => (wd most j : Nat)) := arr_W (by rw [old4 1 (by omega) (by omega), upd_ne _ _ (by omega)]; exact upd_same _ _ _)
  clear old4
  simp only [core1, fgr, execOp, opd, putT, put, nth, forgetL]
  rw [opv_rd (kt.all ti25 rfl rfl), range4]
  simp only [core1, execOp, opd, putT, put, nth]
  rw [opv_rd (km.all ti25 rfl rfl), range4]
  simp only [core1, hkr, execOp, opd, opds, putT, put, nth, doCall, callV_func, List.nil_append, List.append_nil]
  refine opv_callf hf4 (f10 t b o most _ _ lt lm hb ho hf4) fun v5 h5 n5 hn5 hf5 ⟨e5, o5⟩ => ?_
  subst e5
  rw [scaleA_eq]
  have k5 := keep4 h5 (fun i e => o5 i (by rw [eo] at e; injection e with e; omega))
  simp only [core1, tyr, execOp, opd, putT, put, nth, zeroOf, cel, alloc, doAlloc, newRow, extract, getO, List.getElem?_cons_succ, List.getElem?_cons_zero, W]
  refine opv_all4 (arr_0 (upd_same _ _ _)) ti25 rfl fun b6 k6 => ?_
  have k6 := pick_wd k6
  have s6 : ∀ j, j < n5 → (upd (upd h5 n5 (some (Blk.row (Cont.l [AVal.int IntKind.u64 0, AVal.int IntKind.u64 0, AVal.int IntKind.u64 0, AVal.int IntKind.u64 0]) 25))) n5 (some b6)) j = h4 j ∨ n4 ≤ j := fun j hj => by
    by_cases c : j < n4
    · left; rw [upd_ne _ _ (by omega), upd_ne _ _ (by omega), o5 j c]
    · right; omega
  have f6 : Free (upd (upd h5 n5 (some (Blk.row (Cont.l [AVal.int IntKind.u64 0, AVal.int IntKind.u64 0, AVal.int IntKind.u64 0, AVal.int IntKind.u64 0]) 25))) n5 (some b6)) (n5 + 1) := hf5.new.upd (by omega)
  generalize upd (upd h5 n5 (some (Blk.row (Cont.l [AVal.int IntKind.u64 0, AVal.int IntKind.u64 0, AVal.int IntKind.u64 0, AVal.int IntKind.u64 0]) 25))) n5 (some b6) = H6 at *
  have o6 : Old h4 H6 n4 := fun j hj => (s6 j (by omega)).resolve_right (by omega)
  simp only [core1, fgr, execOp, opd, putT, put, nth, forgetL]
  rw [opv_rd ((kt.keep (o6 _ (by omega))).all ti25 rfl rfl), range4]
  simp only [core1, execOp, opd, putT, put, nth]
  rw [opv_rd ((km.keep (o6 _ (by omega))).all ti25 rfl rfl), range4]
  simp only [core1, hkr, execOp, opd, opds, putT, put, nth, doCall, callV_func, List.nil_append, List.append_nil]
  refine opv_callf f6 (f11 t b o most _ _ lt lm hb ho f6) fun v7 h7 n7 hn7 f7 ⟨e7, o7⟩ => ?_
  subst e7
  rw [scaleA_eq]
  have k7 := k6.keep (o7 _ (by omega))
  simp only [core1, tyr, execOp, opd, putT, put, nth, zeroOf, cel, alloc, doAlloc, newRow, extract, getO, List.getElem?_cons_succ, List.getElem?_cons_zero, W]
  refine opv_all4 (arr_0 (upd_same _ _ _)) ti25 rfl fun b8 k8 => ?_
  have k8 := pick_wd k8
  have s8 : ∀ j, j < n7 → (upd (upd h7 n7 (some (Blk.row (Cont.l [AVal.int IntKind.u64 0, AVal.int IntKind.u64 0, AVal.int IntKind.u64 0, AVal.int IntKind.u64 0]) 25))) n7 (some b8)) j = h7 j := fun j hj => by rw [upd_ne _ _ (by omega), upd_ne _ _ (by omega)]
  have f8 : Free (upd (upd h7 n7 (some (Blk.row (Cont.l [AVal.int IntKind.u64 0, AVal.int IntKind.u64 0, AVal.int IntKind.u64 0, AVal.int IntKind.u64 0]) 25))) n7 (some b8)) (n7 + 1) := f7.new.upd (by omega)
  generalize upd (upd h7 n7 (some (Blk.row (Cont.l [AVal.int IntKind.u64 0, AVal.int IntKind.u64 0, AVal.int IntKind.u64 0, AVal.int IntKind.u64 0]) 25))) n7 (some b8) = H8 at *
  have k6 := k7.keep (s8 _ (by omega))
  have o8 : Old h4 H8 n4 := fun j hj => by rw [s8 j (by omega), o7 j (by omega), o6 j hj]
  have rd : ∀ (h' : Hp), Old H8 h' (n7 + 1) → WsR h' v ns := fun h' hh' => keep4 h' fun i e => by
    rw [eo] at e; injection e with e; rw [hh' i (by omega), o8 i (by omega)]
  simp only [core1, fgr, hkr, execOp, opd, opds, putT, put, nth, forgetL, doCall, callV_func, List.nil_append, List.append_nil]
  refine opv_callf f8 (f12 v ns _ _ (by have : maxLen = 9223372036854775807 := rfl; omega) rd f8) fun v9 h9 n9 hn9 f9 ⟨e9, o9⟩ => ?_
  subst e9
  simp only [core1, hkr, execOp, opd, opds, putT, put, nth, doCall, callV_func, List.nil_append, List.append_nil]
  refine opv_callf f9 (f13 a0 ns ha _ _ f9) fun v10 h10 n10 hn10 f10' ⟨e10, o10⟩ => ?_
  subst e10
  have ee := eq_agg (sumV_lt ns 0 (by decide)) (sumV_lt ns 0 (by decide))
  have k6 := (k6.keep (o9 _ (by omega))).keep (o10 _ (by omega))
  have k8 := (k8.keep (o9 _ (by omega))).keep (o10 _ (by omega))
  have rd := rd h10 (fun j hj => by rw [o10 j (by omega), o9 j (by omega)])
  have ee2 := eq_agg (scaleQ_lt (t := t) (by_ := b) (of := o) lm) (scaleQ_lt (t := t) (by_ := b) (of := o) lm)
  simp only [core1, execOp, opd, putT, put, nth, bor, binOther, List.getElem?_cons_succ, List.getElem?_cons_zero, decide_true, Bool.not_true, W, ee, decide_true]
  rw [opv_rd (k6.all ti25 rfl rfl), range4]
  simp only [core1, execOp, opd, putT, put, nth, List.getElem?_cons_succ, List.getElem?_cons_zero]
  rw [opv_rd (k8.all ti25 rfl rfl), range4]
  simp only [core1, fgr, execOp, opd, opds, ofValue, putT, put, nth, forgetL, doCall, builtin, one1, bor, binInt, binOther, shiftB, intOp, doPick, branch, List.getElem?_cons_succ, List.getElem?_cons_zero, decide_true, Bool.not_true, bne_self_eq_false, ee2, decide_true]
  simp only [core1, fgr, execOp, opd, ofValue, putT, put, forgetL, rd.len]
  refine loop3 _ _ a0 v ns ha hl2 ?_ ns.length 0 _ _ _ _ _ _ _ _ _ _ _ _ _ _ _ _ _ _ (Nat.zero_add _) rd
  intro h n x1 x2 x3 x4 x6 x9 x10 x12 x13 x14 x15 x16 x19 x53 x55 x56 x57 x67
  simp only [core1, fgr, execOp, opd, ofValue, putT, put, nth, forgetL, and_self]
end Go.Am.Ytmlagocbphoedaa
