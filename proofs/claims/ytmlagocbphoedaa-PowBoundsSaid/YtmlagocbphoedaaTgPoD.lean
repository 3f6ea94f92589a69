/- The functions that the statement reaches, gone through. -/
import Derived.Test.YtmlagocbphoedaaTgPoC
set_option linter.unusedSimpArgs false
set_option linter.unusedVariables false
set_option linter.defProp false
set_option maxRecDepth 10000
namespace Go.Am.Ytmlagocbphoedaa
open Go Go.Am Go.Proofs
set_option maxHeartbeats 4000000 in
theorem f11 (t by_ of most : Nat) (h : Hp) (n : Nat) (ht : t < b256) (hm : most < b256) (hby : by_ < 18446744073709551616) (hof : of < 18446744073709551616) (hf : Free h n) : Wp (callI env (evalW env) 11 [W t, .int .u64 (by_ : Nat), .int .u64 (of : Nat), W most]) h n fun v' h' n' => v' = scaleA t by_ of most ∧ Old h h' n := by
  refine wp_callI ff11 fi11 ?_
  have hw : ∀ c, W c = .agg [.int .u64 (wd c 0 : Nat), .int .u64 (wd c 1 : Nat), .int .u64 (wd c 2 : Nat), .int .u64 (wd c 3 : Nat)] := fun _ => rfl
  rw [hw t, hw most]
  simp (disch := omega) only [fu11, Try.f11, Option.getD_some, List.replicate, core1, tyr, fgr, hkr, execOp, opd, opds, ofValue, putT, put, nth, forgetL, doCall, callV_func, zeroOf, readCells, cellsOf, aggB, cel, alloc, doAlloc, newRow, ended, resultOf, oneOrTup, rowK, List.append_eq, List.cons_append, List.nil_append, List.append_nil, List.length_cons, List.length_nil, Nat.reduceAdd, Nat.reduceSub, true_and, Nat.zero_add, memr, List.take_succ_cons, List.take_zero, List.drop_zero, Nat.ble, Cont.size, Cont.sub, upd_same, upd_ne, Option.some.injEq, exists_eq_left', true_and, List.length_cons, List.length_nil]
  have fG := ((hf.new (b := some (Blk.row (Cont.l [AVal.int IntKind.u64 (wd t 0 : Nat), AVal.int IntKind.u64 (wd t 1 : Nat), AVal.int IntKind.u64 (wd t 2 : Nat), AVal.int IntKind.u64 (wd t 3 : Nat)]) 25))).new (b := some (Blk.row (Cont.l [AVal.int IntKind.u64 (wd most 0 : Nat), AVal.int IntKind.u64 (wd most 1 : Nat), AVal.int IntKind.u64 (wd most 2 : Nat), AVal.int IntKind.u64 (wd most 3 : Nat)]) 25))).new (b := some (Blk.row (Cont.l [AVal.int IntKind.u64 0, AVal.int IntKind.u64 0, AVal.int IntKind.u64 0, AVal.int IntKind.u64 0]) 25))
  refine opv_callf fG (f41 t _ _ ht fG) fun v1 h1 n1 hn1 hf1 ⟨e1, o1⟩ => ?_
  subst e1
  have k8 : Arr .u64 h1 (n + 1 + 1) 4 (fun _ => 0) := arr_0 ((o1 _ (by omega)).trans (upd_same _ _ _))
  have k4 : Arr .u64 h1 n 4 (fun j => (wd t j : Nat)) := arr_W ((o1 _ (by omega)).trans (by rw [upd_ne _ _ (by omega), upd_ne _ _ (by omega)]; exact upd_same _ _ _))
  have k7 : Arr .u64 h1 (n + 1) 4 (fun j => (wd most j : Nat)) := arr_W ((o1 _ (by omega)).trans (by rw [upd_ne _ _ (by omega)]; exact upd_same _ _ _))
  have oh : Old h h1 n := fun j hj => by rw [o1 j (by omega)]; simp (disch := omega) only [upd_ne]
  by_cases h0 : t = 0
  · have e : scaleV t by_ of most = none := if_pos (.inl h0)
    have hd := decide_eq_true h0
    simp only [core1, tyr, fgr, execOp, opd, ofValue, ops2, putT, put, nth, forgetL, sizeOf, doPick, branch, cel, getO, List.getElem?_cons_succ, List.getElem?_cons_zero, build, fill, hd]
    refine opv_all4 k8 ti25 rfl fun bb hbb => ?_
    simp only [core1, fgr, execOp, opd, ofValue, putT, put, nth, forgetL, true_and, wp_pure, wp_rd (hbb.all ti25 rfl rfl), range4, pick4]
    exact ⟨by rw [scaleA, e]; rfl, fun j hj => by rw [upd_ne _ _ (by omega)]; exact oh j hj⟩
  have hd := decide_eq_false h0
  simp only [core1, execOp, opd, putT, put, nth, List.getElem?_cons_succ, List.getElem?_cons_zero, hd]
  rw [opv_rd (k7.all ti25 rfl rfl), range4]
  simp only [core1, hkr, execOp, opd, opds, putT, put, nth, doCall, callV_func, List.getElem?_cons_succ, List.getElem?_cons_zero, List.nil_append, List.append_nil]
  refine opv_callf hf1 (f41 most _ _ hm hf1) fun v1 h2 n2 hn2 hf2 ⟨e1, o2⟩ => ?_
  subst e1
  have k8 := k8.keep (o2 _ (by omega))
  have k4 := k4.keep (o2 _ (by omega))
  have k7 := k7.keep (o2 _ (by omega))
  have oh := oh.trans o2 (by omega)
  by_cases h1' : most = 0
  · have e : scaleV t by_ of most = none := if_pos (.inr (.inl h1'))
    have hd2 := decide_eq_true h1'
    simp only [core1, tyr, fgr, execOp, opd, ofValue, ops2, putT, put, nth, forgetL, sizeOf, doPick, branch, cel, getO, List.getElem?_cons_succ, List.getElem?_cons_zero, build, fill, hd2]
    refine opv_all4 k8 ti25 rfl fun bb hbb => ?_
    simp only [core1, fgr, execOp, opd, ofValue, putT, put, nth, forgetL, true_and, wp_pure, wp_rd (hbb.all ti25 rfl rfl), range4, pick4]
    exact ⟨by rw [scaleA, e]; rfl, fun j hj => by rw [upd_ne _ _ (by omega)]; exact oh j hj⟩
  have hd2 := decide_eq_false h1'
  by_cases p1 : ((by_ : Nat) : Int) < 1
  · have e : scaleV t by_ of most = none := if_pos (.inr (.inr (.inl (by unfold okB; rw [decide_eq_false (by omega)]; rfl))))
    simp only [core1, tyr, fgr, execOp, opd, ofValue, ops2, putT, put, nth, forgetL, sizeOf, bor, binInt, shiftB, intOp, doPick, branch, cel, getO, List.getElem?_cons_succ, List.getElem?_cons_zero, decide_true, build, fill, hd2, p1]
    refine opv_all4 k8 ti25 rfl fun bb hbb => ?_
    simp only [core1, fgr, execOp, opd, ofValue, putT, put, nth, forgetL, true_and, wp_pure, wp_rd (hbb.all ti25 rfl rfl), range4, pick4]
    exact ⟨by rw [scaleA, e]; rfl, fun j hj => by rw [upd_ne _ _ (by omega)]; exact oh j hj⟩
  by_cases p2 : (1099511627776 : Int) < ((by_ : Nat) : Int)
  · have e : scaleV t by_ of most = none := if_pos (.inr (.inr (.inl (by unfold okB; rw [decide_eq_false (show ¬ by_ ≤ 1099511627776 by omega), Bool.and_false]))))
    simp only [core1, tyr, fgr, execOp, opd, ofValue, ops2, putT, put, nth, forgetL, sizeOf, bor, binInt, shiftB, intOp, doPick, branch, cel, getO, List.getElem?_cons_succ, List.getElem?_cons_zero, gt_iff_lt, decide_true, decide_false, build, fill, hd2, p1, p2]
    refine opv_all4 k8 ti25 rfl fun bb hbb => ?_
    simp only [core1, fgr, execOp, opd, ofValue, putT, put, nth, forgetL, true_and, wp_pure, wp_rd (hbb.all ti25 rfl rfl), range4, pick4]
    exact ⟨by rw [scaleA, e]; rfl, fun j hj => by rw [upd_ne _ _ (by omega)]; exact oh j hj⟩
  by_cases p3 : ((of : Nat) : Int) < 1
  · have e : scaleV t by_ of most = none := if_pos (.inr (.inr (.inr (by unfold okB; rw [decide_eq_false (by omega)]; rfl))))
    simp only [core1, tyr, fgr, execOp, opd, ofValue, ops2, putT, put, nth, forgetL, sizeOf, bor, binInt, shiftB, intOp, doPick, branch, cel, getO, List.getElem?_cons_succ, List.getElem?_cons_zero, gt_iff_lt, decide_true, decide_false, build, fill, hd2, p1, p2, p3]
    refine opv_all4 k8 ti25 rfl fun bb hbb => ?_
    simp only [core1, fgr, execOp, opd, ofValue, putT, put, nth, forgetL, true_and, wp_pure, wp_rd (hbb.all ti25 rfl rfl), range4, pick4]
    exact ⟨by rw [scaleA, e]; rfl, fun j hj => by rw [upd_ne _ _ (by omega)]; exact oh j hj⟩
  by_cases p4 : (1099511627776 : Int) < ((of : Nat) : Int)
  · have e : scaleV t by_ of most = none := if_pos (.inr (.inr (.inr (by unfold okB; rw [decide_eq_false (show ¬ of ≤ 1099511627776 by omega), Bool.and_false]))))
    simp only [core1, tyr, fgr, execOp, opd, ofValue, ops2, putT, put, nth, forgetL, sizeOf, bor, binInt, shiftB, intOp, doPick, branch, cel, getO, List.getElem?_cons_succ, List.getElem?_cons_zero, gt_iff_lt, decide_true, decide_false, build, fill, hd2, p1, p2, p3, p4]
    refine opv_all4 k8 ti25 rfl fun bb hbb => ?_
    simp only [core1, fgr, execOp, opd, ofValue, putT, put, nth, forgetL, true_and, wp_pure, wp_rd (hbb.all ti25 rfl rfl), range4, pick4]
    exact ⟨by rw [scaleA, e]; rfl, fun j hj => by rw [upd_ne _ _ (by omega)]; exact oh j hj⟩
  have hby1 : 1 ≤ by_ ∧ by_ ≤ 1099511627776 := by omega
  have hof1 : 1 ≤ of ∧ of ≤ 1099511627776 := by omega
  have e : scaleV t by_ of most = some (if most < t * by_ / of then most else if t * by_ / of = 0 then 1 else t * by_ / of) := by
    unfold scaleV
    rw [if_neg (by simp [h0, h1', okB, hby1, hof1])]
  have hb2 : by_ < b256 := by unfold b256; omega
  simp only [core1, fgr, execOp, opd, ofValue, putT, put, nth, forgetL, bor, binInt, shiftB, intOp, doPick, branch, List.getElem?_cons_succ, List.getElem?_cons_zero, gt_iff_lt, decide_true, decide_false, hd2, p1, p2, p3, p4]
  refine run_draw.2 ⟨rfl, ?_⟩
  simp only [fe_cons, execOp, opd, nth]
  rw [fev_rd (k4.all ti25 rfl rfl), range4]
  simp only [fe_cons, fev_pure, hkr, execOp, opd, opds, putT, put, nth, doCall, callV_func, List.nil_append, List.append_nil, Nat.reduceAdd, Nat.zero_add]
  refine fev_free hf2 (f43 by_ _ _ hby) (f43 by_ _ _ hby) fun v3 g3 m3 hm3 hg3 ⟨e3, x3⟩ => ?_
  subst e3
  simp only [fe_cons, hkr, execOp, opd, opds, putT, put, nth, doCall, callV_func, List.nil_append, List.append_nil, Nat.reduceAdd]
  refine fev_free hg3 (f42 t by_ _ _ ht hb2 Free.none) (f42 t by_ _ _ ht hb2 hg3) fun v4 g4 m4 hm4 hg4 ⟨e4, x4⟩ => ?_
  subst e4
  simp only [fe_cons, fev_pure, core1, tyr, execOp, opd, putT, put, nth, zeroOf, cel, alloc, doAlloc, newRow, extract, getO, List.getElem?_cons_succ, List.getElem?_cons_zero, Nat.reduceAdd, W]
  refine fev_free hg4 (al25 _ _) (al25 _ _) fun v5 g5 m5 hm5 hg5 ⟨e5, a5, x5, em5⟩ => ?_
  subst e5; subst em5
  simp only [fe_cons, core1, tyr, execOp, putT, put, zeroOf, cel, alloc, doAlloc, newRow, Nat.reduceAdd]
  refine fev_free hg5 (al25 _ _) (al25 _ _) fun v6 g6 m6 hm6 hg6 ⟨e6, a6, x6, em6⟩ => ?_
  subst e6; subst em6
  simp only [fe_cons, execOp, opd, putT, put, nth, Nat.reduceAdd]
  refine fev_all4 (a5.keep (x6 _ (by omega))) ti25 rfl fun b9 l10 => ?_
  simp only [fe_cons, execOp, opd, putT, nth, Nat.reduceAdd]
  refine fev_all4 (a6.upd (by omega)) ti25 rfl fun b10 l11 => ?_
  simp only [fe_nil, core1, fgr, putT, forgetL, Nat.reduceAdd]
  refine ⟨(by (try simp (disch := omega) only [fine, List.all_cons, List.all_nil, clash_pl, clash_pr, Bool.not_false, Bool.true_or, Bool.and_true, Bool.true_and, clash_rw, clash_ww, clash_nn, clash_nw, clash_xn]); repeat' (first | rfl | exact (Bool.or_eq_true _ _).mpr (.inr rfl) | refine (Bool.and_eq_true _ _).mpr ⟨?_, ?_⟩)), ?_⟩
  have kw : Arr .u64 (upd (upd g6 m4 (some b9)) (m4 + 1) (some b10)) m4 4 (fun j => (wd (t * by_ % b256) j : Nat)) := (pick_wd l10).upd (by omega)
  have kh : Arr .u64 (upd (upd g6 m4 (some b9)) (m4 + 1) (some b10)) (m4 + 1) 4 (fun j => (wd (t * by_ / b256) j : Nat)) := pick_wd l11
  have s4 : ∀ j, j < n2 → (upd (upd g6 m4 (some b9)) (m4 + 1) (some b10)) j = h2 j := fun j hj => by
    rw [upd_ne _ _ (by omega), upd_ne _ _ (by omega), x6 j (by omega), x5 j (by omega), x4 j (by omega), x3 j (by omega)]
  have f4 : Free (upd (upd g6 m4 (some b9)) (m4 + 1) (some b10)) (m4 + 1 + 1) := (hg6.upd (by omega)).upd (by omega)
  generalize upd (upd g6 m4 (some b9)) (m4 + 1) (some b10) = H4 at *
  have k8 := k8.keep (s4 _ (by omega))
  have k7 := k7.keep (s4 _ (by omega))
  have oh : Old h H4 n := fun j hj => by rw [s4 j (by omega)]; exact oh j hj
  -- the bits
  refine run_draw.2 ⟨rfl, ?_⟩
  simp only [fe_cons, execOp, opd, nth]
  rw [fev_rd (kw.all ti25 rfl rfl), range4]
  simp only [fe_cons, hkr, execOp, opd, opds, putT, put, nth, doCall, callV_func, List.nil_append, List.append_nil, Nat.zero_add]
  refine fev_free f4 (f44 (t * by_ % b256) _ _) (f44 (t * by_ % b256) _ _) fun x H5 n5 hn5 f5 ⟨bx, ix, ox⟩ => ?_
  have kh5 := kh.keep (ox _ (by omega))
  simp only [fe_cons, execOp, opd, putT, put, nth, Nat.reduceAdd]
  rw [fev_rd (kh5.all ti25 rfl rfl), range4]
  simp only [fe_cons, hkr, execOp, opd, opds, putT, put, nth, doCall, callV_func, List.nil_append, List.append_nil, Nat.reduceAdd]
  refine fev_free f5 (f44 (t * by_ / b256) _ _) (f44 (t * by_ / b256) _ _) fun y H6 n6 hn6 f6 ⟨by2, iy, oy⟩ => ?_
  simp only [fe_cons, execOp, opd, opds, putT, put, nth, doCall, builtin, two2, Nat.reduceAdd]
  have bx6 := bx.old oy hn6
  have hne : ownId x ≠ ownId y := by
    obtain ⟨i1, q1, rfl, _⟩ := bx
    obtain ⟨i2, q2, rfl, _⟩ := by2
    intro q
    injection q with q
    have := iy i2 rfl
    omega
  refine fev_any f6 (wp_app_bits bx6 by2 hne) fun v7 H7 n7 rr ww hn7 f7 ⟨e7, en7, ⟨e8, hrow⟩, o7⟩ => ?_
  subst e7; subst en7
  have hidx : ∀ j, ownId x = some j → m4 + 1 + 1 ≤ j := ix
  simp only [fe_nil, fe_cons, fev_pure, core1, fgr, execOp, opd, ops2, putT, put, nth, forgetL, Nat.reduceAdd]
  refine ⟨(by (try simp (disch := omega) only [fine, List.all_cons, List.all_nil, clash_pr, clash_rr, Bool.not_false, Bool.true_or, Bool.and_true, Bool.true_and, clash_nn, clash_xn, clash_nx]); repeat' (first | rfl | exact (Bool.or_eq_true _ _).mpr (.inr rfl) | refine (Bool.and_eq_true _ _).mpr ⟨?_, ?_⟩)), ?_⟩
  have s7 : ∀ j, j < m4 + 1 + 1 → H7 j = H4 j := fun j hj => by
    rw [o7 j (by omega) (fun q => by have := hidx j q; omega), oy j (by omega), ox j (by omega)]
  have k8 := k8.keep (s7 _ (by omega))
  have k7 := k7.keep (s7 _ (by omega))
  have oh : Old h H7 n := fun j hj => by rw [s7 j (by omega)]; exact oh j hj
  have hg : ∀ j, j < 512 → (if j < 256 then bit (t * by_ % b256) j else bit (t * by_ / b256) (j - 256)) = bit (t * by_) j := fun j hj => by
    by_cases c : j < 256
    · rw [if_pos c, bit_mod c]
    · rw [if_neg c]
      have := bit_hi (t * by_) (j - 256)
      rw [show 256 + (j - 256) = j by omega, ← p256] at this
      exact this.symm
  have hP : t * by_ < 2 ^ 512 := by
    have h1 : t * by_ < b256 * b256 := Nat.mul_lt_mul_of_lt_of_le ht (Nat.le_of_lt hb2) (by decide)
    exact hP_aux p256 h1 512 rfl
  have hw511 : IntKind.i64.wrap 511 = 511 := w64 (by decide) (by decide)
  simp (disch := omega) only [core1, tyr, fgr, execOp, opd, opds, ofValue, putT, put, nth, forgetL, doCall, builtin, one1, blr, sizeOf, zeroOf, bor, binInt, shiftB, intOp, wrapI, cel, alloc, doAlloc, newRow, getO, rowK, List.length_cons, List.length_nil, Nat.reduceAdd, Int.cast_ofNat_Int, Int.reduceSub, not_false_eq_true, decide_true, Bool.and_true, true_and, Nat.zero_add, reduceCtorEq, memr, build, fill, Nat.ble, writeCells, setAll, Cont.size, Cont.set, upd_same, List.all_cons, List.all_nil, Option.some.injEq, exists_eq_left', ne_eq, true_and, List.length_cons, List.length_nil, hw511]
  have hz : t * by_ / 2 ^ 512 = 0 := Nat.div_eq_of_lt hP
  have f8 := (f7.new (b := some (Blk.row (Cont.l [AVal.int IntKind.u64 0, AVal.int IntKind.u64 0, AVal.int IntKind.u64 0, AVal.int IntKind.u64 0]) 25))).upd (b := some (Blk.row (Cont.l [AVal.int IntKind.u64 0, AVal.int IntKind.u64 0, AVal.int IntKind.u64 0, AVal.int IntKind.u64 0]) 25)) (i := n6 + 1) (by omega)
  refine loop11 _ _ (n6 + 1) (t * by_) of n6 (n6 + 1) 512 _ _ _ _ hg hof1 hP (by omega) (Nat.le_refl _) H7 ?_ 512 _ (n6 + 1 + 1) false 0 _ _ _ _ _ _ _ _ _ _ _ _ (Nat.le_refl _) ?_ (by rw [hz, Nat.zero_mod]) (Nums.upd (Nums.upd ⟨⟨_, rfl⟩, by omega, e8, hrow⟩ (by omega)) (by omega)) ((arr_0 (upd_same _ _ _)).ext fun j hj => by rw [hz, Nat.zero_div, Nat.zero_mod]; unfold wd; simp) (by omega) (by omega) f8 (fun j hj => by rw [upd_ne _ _ (by omega), upd_ne _ _ (by omega)])
  · intro H9 n9 x0 x1 x3 x4 x9 x10 x11 x12 x15 x16 x38 x57 x78 x94 x97 k13 hn9 f9 s9
    have k8 := k8.keep (s9 _ (by omega))
    have k7 := k7.keep (s9 _ (by omega))
    have oh : Old h H9 n := fun j hj => by rw [s9 j (by omega)]; exact oh j hj
    by_cases z2 : b256 ≤ t * by_ / of
    · have v : (if most < t * by_ / of then most else if t * by_ / of = 0 then 1 else t * by_ / of) = most := if_pos (by omega)
      have zd2 := decide_eq_true z2
      simp only [core1, fgr, execOp, opd, ofValue, putT, put, nth, forgetL, doPick, branch, List.getElem?_cons_succ, List.getElem?_cons_zero, zd2]
      rw [opv_rd (k7.all ti25 rfl rfl), range4]
      simp only [core1, execOp, opd, putT, put, nth]
      refine opv_all4 k8 ti25 rfl fun bb hbb => ?_
      simp only [core1, fgr, execOp, opd, ofValue, putT, put, nth, forgetL, true_and, wp_pure, wp_rd (hbb.all ti25 rfl rfl), range4, pick4]
      exact ⟨by rw [scaleA, e, v]; rfl, fun j hj => by rw [upd_ne _ _ (by omega)]; exact oh j hj⟩
    have zd2 := decide_eq_false z2
    have hQ : t * by_ / of < b256 := by omega
    rw [Nat.mod_eq_of_lt hQ] at k13
    simp only [core1, execOp, opd, putT, put, nth, List.getElem?_cons_succ, List.getElem?_cons_zero, zd2]
    rw [opv_rd (k13.all ti25 rfl rfl), range4]
    simp only [core1, execOp, opd, putT, put, nth, List.getElem?_cons_succ, List.getElem?_cons_zero]
    rw [opv_rd (k7.all ti25 rfl rfl), range4]
    simp only [core1, hkr, execOp, opd, opds, putT, put, nth, doCall, callV_func, List.getElem?_cons_succ, List.getElem?_cons_zero, List.nil_append, List.append_nil]
    refine opv_callf f9 (f48 _ _ _ _ hQ hm f9) fun v11 H11 n11 hn11 f11' ⟨e11, o11⟩ => ?_
    subst e11
    have k8 := k8.keep (o11 _ (by omega))
    have k7 := k7.keep (o11 _ (by omega))
    have k13 := k13.keep (o11 _ (by omega))
    have oh := oh.trans o11 (by omega)
    by_cases z3 : most < t * by_ / of
    · have v : (if most < t * by_ / of then most else if t * by_ / of = 0 then 1 else t * by_ / of) = most := if_pos z3
      have zd3 : cmpV (t * by_ / of) most = 1 := by unfold cmpV; rw [if_neg (by omega), if_neg (by omega)]
      simp only [core1, fgr, execOp, opd, ofValue, putT, put, nth, forgetL, bor, binInt, shiftB, intOp, doPick, branch, List.getElem?_cons_succ, List.getElem?_cons_zero, Int.reduceLT, gt_iff_lt, decide_true, zd3]
      rw [opv_rd (k7.all ti25 rfl rfl), range4]
      simp only [core1, execOp, opd, putT, put, nth]
      refine opv_all4 k8 ti25 rfl fun bb hbb => ?_
      simp only [core1, fgr, execOp, opd, ofValue, putT, put, nth, forgetL, true_and, wp_pure, wp_rd (hbb.all ti25 rfl rfl), range4, pick4]
      exact ⟨by rw [scaleA, e, v]; rfl, fun j hj => by rw [upd_ne _ _ (by omega)]; exact oh j hj⟩
    have zd3 : ∃ z : Int, cmpV (t * by_ / of) most = z ∧ ¬ 0 < z := by
      unfold cmpV
      by_cases e1 : t * by_ / of = most
      · exact ⟨0, if_pos e1, by decide⟩
      · exact ⟨-1, by rw [if_neg e1, if_pos (by omega)], by decide⟩
    obtain ⟨z, zz, zn⟩ := zd3
    simp only [core1, fgr, execOp, opd, ofValue, putT, put, nth, forgetL, bor, binInt, shiftB, intOp, doPick, branch, List.getElem?_cons_succ, List.getElem?_cons_zero, gt_iff_lt, decide_true, decide_false, zz, zn]
    rw [opv_rd (k13.all ti25 rfl rfl), range4]
    simp only [core1, hkr, execOp, opd, opds, putT, put, nth, doCall, callV_func, List.nil_append, List.append_nil]
    refine opv_callf f11' (f41 _ _ _ hQ f11') fun v12 H12 n12 hn12 f12 ⟨e12, o12⟩ => ?_
    subst e12
    have k8 := k8.keep (o12 _ (by omega))
    have k13 := k13.keep (o12 _ (by omega))
    have oh := oh.trans o12 (by omega)
    by_cases z4 : t * by_ / of = 0
    · have v : (if most < t * by_ / of then most else if t * by_ / of = 0 then 1 else t * by_ / of) = 1 := by rw [if_neg z3, if_pos z4]
      have zd4 := decide_eq_true z4
      simp only [core1, fgr, hkr, execOp, opd, opds, ofValue, putT, put, nth, forgetL, doCall, callV_func, List.nil_append, List.append_nil, zd4]
      refine opv_callf f12 (f43 1 _ _ (by decide)) fun v13 H13 n13 hn13 f13 ⟨e13, o13⟩ => ?_
      subst e13
      have k8 := k8.keep (o13 _ (by omega))
      have oh := oh.trans o13 (by omega)
      simp only [core1, execOp, opd, putT, put, nth, W]
      refine opv_all4 k8 ti25 rfl fun bb hbb => ?_
      simp only [core1, fgr, execOp, opd, ofValue, putT, put, nth, forgetL, true_and, wp_pure, wp_rd (hbb.all ti25 rfl rfl), range4, pick4]
      exact ⟨by rw [scaleA, e, v]; rfl, fun j hj => by rw [upd_ne _ _ (by omega)]; exact oh j hj⟩
    have v : (if most < t * by_ / of then most else if t * by_ / of = 0 then 1 else t * by_ / of) = t * by_ / of := by rw [if_neg z3, if_neg z4]
    have zd4 := decide_eq_false z4
    simp only [core1, fgr, execOp, opd, putT, put, nth, forgetL, zd4]
    rw [opv_rd (k13.all ti25 rfl rfl), range4]
    simp only [core1, execOp, opd, putT, put, nth]
    refine opv_all4 k8 ti25 rfl fun bb hbb => ?_
    simp only [core1, fgr, execOp, opd, ofValue, putT, put, nth, forgetL, true_and, wp_pure, wp_rd (hbb.all ti25 rfl rfl), range4, pick4]
    exact ⟨by rw [scaleA, e, v]; rfl, fun j hj => by rw [upd_ne _ _ (by omega)]; exact oh j hj⟩
  · rw [hz, Nat.zero_div]; rfl
/- Rows of numbers of four words; sums of them: the program's. -/
def words (a : Nat) : List AVal := [.int .u64 (wd a 0 : Nat), .int .u64 (wd a 1 : Nat), .int .u64 (wd a 2 : Nat), .int .u64 (wd a 3 : Nat)]
/-- Numbers that are read. -/
structure WsR (h : Hp) (v : AVal) (ns : List Nat) : Prop where
  len : ∀ ts, bLen env (22 :: ts) v = M.pure (.int .i64 (ns.length : Nat))
  lt : ∀ j (hj : j < ns.length), ns[j] < b256
  at_ : ∀ j (hj : j < ns.length), ∃ p ids, (∀ h' n', Rd (indexAddr env 22 v (.int .i64 (j : Nat))) h' n' [] p) ∧ ∀ n, Rd (load env 25 p) h n ids (.agg (words ns[j]))
inductive ArgW : AVal → List Nat → Prop
  | nils : ArgW .nils []
  | isl (f : Nat → AVal) (ns : List Nat) (hl : ns.length ≤ maxLen) (hc : ∀ j (hj : j < ns.length), ns[j] < b256 ∧ cellsOf f (j * 4) 4 = words ns[j]) : ArgW (.isl f 4 0 ns.length) ns
theorem ArgW.r {v : AVal} {ns : List Nat} (hv : ArgW v ns) (h : Hp) : WsR h v ns := by
  cases hv with
  | nils => exact ⟨fun ts => rfl, fun j hj => (by cases hj), fun j hj => (by cases hj)⟩
  | isl f ns hl hc =>
    refine ⟨fun ts => rfl, fun j hj => (hc j hj).1, fun j hj => ⟨.ip f (0 + ns.length * 4) (0 + j * 4), [], fun h' n' => ?_, fun n => ?_⟩⟩
    · have hu : und env 22 = M.pure (.slice 25) := rfl
      have hz : sizeOf env 25 = M.pure 4 := rfl
      simp only [indexAddr, hu, hz, bind_pure, intK, slK, idx, bind_assoc, Int.toNat_natCast]
      exact Rd.bind (i2 := []) (Rd.ob (by simp; omega)) (Rd.pure _)
    · have hi : ti env 25 = M.pure ty25.i := rfl
      have ha : aggB ty25.i.desc = true := rfl
      simp only [load, hi, bind_pure, ha, readCells, bind_assoc]
      refine Rd.bind (i2 := []) (Rd.ob (ble_of (by show 0 + j * 4 + 4 ≤ _; omega))) ?_
      show Rd (M.pure (AVal.agg (cellsOf f (0 + j * 4) 4))) h n [] _
      rw [Nat.zero_add, (hc j hj).2]
      exact Rd.pure _
theorem ArgW.short {v : AVal} {ns : List Nat} (hv : ArgW v ns) : ns.length ≤ maxLen := by
  cases hv with
  | nils => exact Nat.zero_le _
  | isl f ns hl hc => exact hl
def sumV : List Nat → Nat → Nat
  | [], s => s
  | x :: l, s => if b256 ≤ s + x then b256 - 1 else sumV l (s + x)
theorem loop12 (Q : Post0) (ks : List Kf) (v : AVal) (ns : List Nat) (N i2 i3 : Nat) (hl : ns.length ≤ maxLen) (d : i2 ≠ i3) (hN : N ≤ i2 ∧ N ≤ i3) (h0 : Hp) (hv : ∀ h, Old h0 h N → WsR h v ns) (hlt : ∀ j (hj : j < ns.length), ns[j] < b256)
    (hE : ∀ (h : Hp) (n : Nat) (x0 x5 x6 x7 x8 x9 x10 x11 x20 : AVal), Arr .u64 h i2 4 (fun _ => 0) → Arr .u64 h i3 4 (fun j => (wd (sumV ns 0) j : Nat)) → Old h0 h N → Kont env 12 none Q ks (.exit 0) (x0 :: AVal.junk :: .ptr i2 0 :: .ptr i3 0 :: AVal.junk :: x5 :: x6 :: x7 :: x8 :: x9 :: x10 :: x11 :: AVal.junk :: AVal.junk :: AVal.junk :: AVal.junk :: AVal.junk :: AVal.junk :: AVal.junk :: AVal.junk :: x20 :: AVal.junk :: AVal.junk :: AVal.junk :: AVal.junk :: AVal.junk :: []) h n)
    (hR : ∀ (h : Hp) (n : Nat) (x0 x3 x5 x6 x7 x8 x9 x10 x11 x20 : AVal), Arr .u64 h i2 4 (fun j => (wd (sumV ns 0) j : Nat)) → Old h0 h N → Kont env 12 none Q ks .ret (x0 :: AVal.junk :: .ptr i2 0 :: x3 :: AVal.junk :: x5 :: x6 :: x7 :: x8 :: x9 :: x10 :: x11 :: AVal.junk :: AVal.junk :: AVal.junk :: AVal.junk :: AVal.junk :: AVal.junk :: AVal.junk :: AVal.junk :: x20 :: AVal.junk :: AVal.junk :: AVal.junk :: AVal.junk :: AVal.junk :: []) h n) :
    ∀ (k i s : Nat) (h : Hp) (n : Nat) (x0 x5 x6 x7 x11 x20 : AVal), i + k = ns.length → s < b256 → sumV ns 0 = sumV (ns.drop i) s → Arr .u64 h i2 4 (fun _ => 0) → Arr .u64 h i3 4 (fun j => (wd s j : Nat)) → i2 < n → i3 < n → Free h n → Old h0 h N →
    Run env 12 none Q (.loop lp12_0) ks (x0 :: AVal.junk :: .ptr i2 0 :: .ptr i3 0 :: AVal.junk :: x5 :: x6 :: x7 :: v :: .int .i64 (ns.length : Nat) :: .int .i64 (i : Nat) :: x11 :: AVal.junk :: AVal.junk :: AVal.junk :: AVal.junk :: AVal.junk :: AVal.junk :: AVal.junk :: AVal.junk :: x20 :: AVal.junk :: AVal.junk :: AVal.junk :: AVal.junk :: AVal.junk :: []) h n := by
  have hml : maxLen = 9223372036854775807 := rfl
  intro k
  induction k with
  | zero =>
    intro i s h n x0 x5 x6 x7 x11 x20 hi hs he a2 a3 b2 b3 hf ho
    have : i = ns.length := by omega
    subst this
    rw [List.drop_length, sumV] at he
    have hc : ¬ ((ns.length : Nat) : Int) < ((ns.length : Nat) : Int) := by omega
    rw [run_loop]
    simp only [lp12_0, loopsOf, Try.f12, Option.getD_some, core1, fgr, execOp, opd, putT, put, nth, forgetL, bor, binInt, shiftB, intOp, List.nil_append, List.append_nil, decide_true, decide_false, List.getD_cons_zero, hc]
    exact hE h n _ _ _ _ _ _ _ _ _ a2 (a3.ext fun j hj => by rw [he]) ho
  | succ k ih =>
    intro i s h n x0 x5 x6 x7 x11 x20 hi hs he a2 a3 b2 b3 hf ho
    have h1 : i < ns.length := by omega
    have hc : ((i : Nat) : Int) < ((ns.length : Nat) : Int) := by omega
    have hw : IntKind.i64.wrap (((i : Nat) : Int) + 1) = ((i + 1 : Nat) : Int) := by rw [w64 (by omega) (by omega)]; omega
    obtain ⟨p, ids, r1, r2⟩ := (hv h ho).at_ i h1
    have hxi := hlt i h1
    rw [List.drop_eq_getElem_cons h1, sumV] at he
    rw [run_loop]
    simp only [lp12_0, loopsOf, Try.f12, Option.getD_some, core1, fgr, execOp, opd, putT, put, nth, forgetL, bor, binInt, shiftB, intOp, List.nil_append, List.append_nil, decide_true, List.getD_cons_zero, hc]
    rw [opv_rd (r1 _ _)]
    simp only [core1, execOp, opd, putT, put, nth]
    rw [opv_rd (r2 _), words]
    simp only [core1, tyr, execOp, opd, putT, put, nth, zeroOf, cel, alloc, doAlloc, newRow]
    refine opv_all4 (arr_0 (upd_same _ _ _)) ti25 rfl fun b5 k5 => ?_
    have k5 := pick_wd k5
    have s5 : ∀ j, j < n → (upd (upd h n (some (Blk.row (Cont.l [AVal.int IntKind.u64 0, AVal.int IntKind.u64 0, AVal.int IntKind.u64 0, AVal.int IntKind.u64 0]) 25))) n (some b5)) j = h j := fun j hj => by rw [upd_ne _ _ (by omega), upd_ne _ _ (by omega)]
    have f5 : Free (upd (upd h n (some (Blk.row (Cont.l [AVal.int IntKind.u64 0, AVal.int IntKind.u64 0, AVal.int IntKind.u64 0, AVal.int IntKind.u64 0]) 25))) n (some b5)) (n + 1) := hf.new.upd (by omega)
    generalize upd (upd h n (some (Blk.row (Cont.l [AVal.int IntKind.u64 0, AVal.int IntKind.u64 0, AVal.int IntKind.u64 0, AVal.int IntKind.u64 0]) 25))) n (some b5) = H5 at *
    have a3 := a3.keep (s5 _ b3)
    have a2 := a2.keep (s5 _ b2)
    simp only [core1, fgr, execOp, opd, putT, nth, forgetL]
    rw [opv_rd (a3.all ti25 rfl rfl), range4]
    simp only [core1, execOp, opd, putT, put, nth]
    rw [opv_rd (k5.all ti25 rfl rfl), range4]
    simp only [core1, hkr, execOp, opd, opds, putT, put, nth, doCall, callV_func, List.nil_append, List.append_nil]
    refine opv_callf f5 (f27 s ns[i] H5 (n + 1) hs hxi f5) fun v6 H6 n6 hn6 f6 ⟨e6, o6⟩ => ?_
    subst e6
    have a3 := a3.keep (o6 _ (by omega))
    have a2 := a2.keep (o6 _ (by omega))
    simp only [core1, tyr, execOp, opd, putT, put, nth, zeroOf, cel, alloc, doAlloc, newRow, extract, getO, List.getElem?_cons_succ, List.getElem?_cons_zero, W]
    refine opv_all4 (arr_0 (upd_same _ _ _)) ti25 rfl fun b7 k7 => ?_
    have k7 := pick_wd k7
    have s7 : ∀ j, j < n6 → (upd (upd H6 n6 (some (Blk.row (Cont.l [AVal.int IntKind.u64 0, AVal.int IntKind.u64 0, AVal.int IntKind.u64 0, AVal.int IntKind.u64 0]) 25))) n6 (some b7)) j = H6 j := fun j hj => by rw [upd_ne _ _ (by omega), upd_ne _ _ (by omega)]
    have f7 : Free (upd (upd H6 n6 (some (Blk.row (Cont.l [AVal.int IntKind.u64 0, AVal.int IntKind.u64 0, AVal.int IntKind.u64 0, AVal.int IntKind.u64 0]) 25))) n6 (some b7)) (n6 + 1) := f6.new.upd (by omega)
    generalize upd (upd H6 n6 (some (Blk.row (Cont.l [AVal.int IntKind.u64 0, AVal.int IntKind.u64 0, AVal.int IntKind.u64 0, AVal.int IntKind.u64 0]) 25))) n6 (some b7) = H7 at *
    have a3 := a3.keep (s7 _ (by omega))
    have a2 := a2.keep (s7 _ (by omega))
    have ho7 : Old h0 H7 N := fun j hj => by rw [s7 j (by omega), o6 j (by omega), s5 j (by omega)]; exact ho j hj
    by_cases c : b256 ≤ s + ns[i]
    · have cd := decide_eq_true c
      rw [if_pos c] at he
      simp only [core1, tyr, fgr, hkr, execOp, opd, opds, ops2, putT, put, nth, forgetL, doCall, callV_func, sizeOf, cel, getO, List.nil_append, List.append_nil, build, fill, cd]
      refine opv_callf f7 (f38 0 H7 _ (by decide) f7) fun v8 H8 n8 hn8 f8 ⟨e8, o8⟩ => ?_
      subst e8
      simp only [core1, execOp, opd, putT, put, nth, W]
      refine opv_all4 (a2.keep (o8 _ (by omega))) ti25 rfl fun b9 k9 => ?_
      have k9 := pick_wd k9
      simp only [core1, fgr, putT, forgetL]
      refine hR _ _ _ _ _ _ _ _ _ _ _ _ (k9.ext fun j hj => by rw [he]; rfl) (fun j hj => ?_)
      rw [upd_ne _ _ (by omega), o8 j (by omega)]; exact ho7 j hj
    · have cd := decide_eq_false c
      rw [if_neg c] at he
      rw [Nat.mod_eq_of_lt (by omega)] at k7
      simp only [core1, fgr, execOp, opd, putT, put, nth, forgetL, cd]
      rw [opv_rd (k7.all ti25 rfl rfl), range4]
      simp only [core1, execOp, opd, putT, put, nth]
      refine opv_all4 a3 ti25 rfl fun b8 k8 => ?_
      have k8 := pick_wd k8
      simp only [core1, fgr, execOp, opd, ofValue, putT, put, nth, forgetL, bor, binInt, shiftB, intOp, wrapI, decide_true, hw]
      refine ih (i + 1) (s + ns[i]) _ _ _ _ _ _ _ _ (by omega) (by omega) he (a2.upd d) k8 (by omega) (by omega) (f7.upd (by omega)) (fun j hj => ?_)
      rw [upd_ne _ _ (by omega)]; exact ho7 j hj
theorem f12 (v : AVal) (ns : List Nat) (h : Hp) (n : Nat) (hl : ns.length ≤ maxLen) (hv : ∀ h', Old h h' n → WsR h' v ns) (hf : Free h n) : Wp (callI env (evalW env) 12 [v]) h n fun v' h' n' => v' = W (sumV ns 0) ∧ Old h h' n := by
  refine wp_callI ff12 fi12 ?_
  simp only [fu12, Try.f12, Option.getD_some, List.replicate, core1, tyr, fgr, execOp, opd, opds, ofValue, putT, put, nth, forgetL, doCall, builtin, one1, zeroOf, cel, alloc, doAlloc, newRow, ended, resultOf, oneOrTup, List.cons_append, List.nil_append, List.length_cons, List.length_nil, Nat.reduceSub, Nat.zero_add, (hv h (Old.refl _ _)).len]
  refine loop12 _ _ v ns n n (n + 1) hl (by omega) (by omega) h hv (hv h (Old.refl _ _)).lt ?_ ?_ ns.length 0 0 _ (n + 1 + 1) _ _ _ _ _ _ (Nat.zero_add _) (by decide) rfl (arr_0 (by rw [upd_ne _ _ (by omega)]; exact upd_same _ _ _)) ((arr_0 (upd_same _ _ _)).ext fun j hj => by unfold wd; simp) (by omega) (by omega) hf.new.new (fun j hj => by rw [upd_ne _ _ (by omega), upd_ne _ _ (by omega)])
  · intro h' n' x0 x5 x6 x7 x8 x9 x10 x11 x20 a2 a3 ho
    simp only [core1, execOp, opd, nth]
    rw [opv_rd (a3.all ti25 rfl rfl), range4]
    simp only [core1, execOp, opd, putT, put, nth]
    refine opv_all4 a2 ti25 rfl fun bb hbb => ?_
    simp only [core1, fgr, putT, nth, forgetL, true_and, wp_pure, wp_det (hbb.all ti25 rfl rfl).wp, range4, pick4]
    exact ⟨rfl, fun j hj => by rw [upd_ne _ _ (by omega)]; exact ho j hj⟩
  · intro h' n' x0 x3 x5 x6 x7 x8 x9 x10 x11 x20 a2 ho
    simp only [core1, nth, true_and, wp_pure, wp_rd (a2.all ti25 rfl rfl), range4]
    exact ⟨rfl, ho⟩
/- Sums of rows: the document's. -/
theorem loop13 (Q : Post0) (ks : List Kf) (v : AVal) (ns : List Nat) (N i2 i3 : Nat) (hl : ns.length ≤ maxLen) (d : i2 ≠ i3) (hN : N ≤ i2 ∧ N ≤ i3) (h0 : Hp) (hv : ∀ h, Old h0 h N → WsR h v ns) (hlt : ∀ j (hj : j < ns.length), ns[j] < b256) (hids : ∀ h, Old h0 h N → ∀ j (hj : j < ns.length), ∃ p, (∀ h' n', Rd (indexAddr env 22 v (.int .i64 (j : Nat))) h' n' [] p) ∧ ∀ n, Rd (load env 25 p) h n [] (.agg (words ns[j])))
    (hE : ∀ (h : Hp) (n : Nat) (x0 x4 x5 x6 x11 x23 : AVal), Arr .u64 h i2 4 (fun _ => 0) → Arr .u64 h i3 4 (fun j => (wd (sumV ns 0) j : Nat)) → Old h0 h N → Kont env 13 none Q ks (.exit 0) (x0 :: AVal.junk :: .ptr i2 0 :: .ptr i3 0 :: x4 :: x5 :: x6 :: AVal.junk :: AVal.junk :: AVal.junk :: AVal.junk :: x11 :: AVal.junk :: AVal.junk :: AVal.junk :: AVal.junk :: AVal.junk :: AVal.junk :: AVal.junk :: AVal.junk :: AVal.junk :: AVal.junk :: AVal.junk :: x23 :: AVal.junk :: AVal.junk :: AVal.junk :: AVal.junk :: []) h n)
    (hR : ∀ (h : Hp) (n : Nat) (x0 x3 x4 x5 x6 x11 x23 : AVal), Arr .u64 h i2 4 (fun j => (wd (sumV ns 0) j : Nat)) → Old h0 h N → Kont env 13 none Q ks .ret (x0 :: AVal.junk :: .ptr i2 0 :: x3 :: x4 :: x5 :: x6 :: AVal.junk :: AVal.junk :: AVal.junk :: AVal.junk :: x11 :: AVal.junk :: AVal.junk :: AVal.junk :: AVal.junk :: AVal.junk :: AVal.junk :: AVal.junk :: AVal.junk :: AVal.junk :: AVal.junk :: AVal.junk :: x23 :: AVal.junk :: AVal.junk :: AVal.junk :: AVal.junk :: []) h n) :
    ∀ (k i s : Nat) (h : Hp) (n : Nat) (x5 x6 x11 x23 : AVal), i + k = ns.length → s < b256 → sumV ns 0 = sumV (ns.drop i) s → Arr .u64 h i2 4 (fun _ => 0) → Arr .u64 h i3 4 (fun j => (wd s j : Nat)) → i2 < n → i3 < n → Free h n → Old h0 h N →
    Run env 13 none Q (.loop lp13_0) ks (v :: AVal.junk :: .ptr i2 0 :: .ptr i3 0 :: .int .i64 (i : Nat) :: x5 :: x6 :: AVal.junk :: AVal.junk :: AVal.junk :: AVal.junk :: x11 :: AVal.junk :: AVal.junk :: AVal.junk :: AVal.junk :: AVal.junk :: AVal.junk :: AVal.junk :: AVal.junk :: AVal.junk :: AVal.junk :: AVal.junk :: x23 :: AVal.junk :: AVal.junk :: AVal.junk :: AVal.junk :: []) h n := by
  have hml : maxLen = 9223372036854775807 := rfl
  intro k
  induction k with
  | zero =>
    intro i s h n x5 x6 x11 x23 hi hs he a2 a3 b2 b3 hf ho
    have : i = ns.length := by omega
    subst this
    rw [List.drop_length, sumV] at he
    have hc : ¬ ((ns.length : Nat) : Int) < ((ns.length : Nat) : Int) := by omega
    rw [run_loop]
    simp only [lp13_0, loopsOf, Try.f13, Option.getD_some, core1, fgr, execOp, opd, opds, putT, put, nth, forgetL, doCall, builtin, one1, bor, binInt, shiftB, intOp, List.nil_append, List.append_nil, decide_true, decide_false, List.getD_cons_zero, (hv h ho).len, hc]
    exact hE h n _ _ _ _ _ _ a2 (a3.ext fun j hj => by rw [he]) ho
  | succ k ih =>
    intro i s h n x5 x6 x11 x23 hi hs he a2 a3 b2 b3 hf ho
    have h1 : i < ns.length := by omega
    have hc : ((i : Nat) : Int) < ((ns.length : Nat) : Int) := by omega
    have hw : IntKind.i64.wrap (((i : Nat) : Int) + 1) = ((i + 1 : Nat) : Int) := by rw [w64 (by omega) (by omega)]; omega
    obtain ⟨p, r1, r2⟩ := hids h ho i h1
    have hxi := hlt i h1
    rw [List.drop_eq_getElem_cons h1, sumV] at he
    rw [run_loop]
    simp only [lp13_0, loopsOf, Try.f13, Option.getD_some, core1, fgr, execOp, opd, opds, putT, put, nth, forgetL, doCall, builtin, one1, bor, binInt, shiftB, intOp, List.nil_append, List.append_nil, decide_true, List.getD_cons_zero, (hv h ho).len, hc]
    refine run_draw.2 ⟨rfl, ?_⟩
    simp only [fe_cons, execOp, opd, nth]
    rw [fev_rd (a3.all ti25 rfl rfl), range4]
    simp only [fe_cons, fev_pure, execOp, opd, putT, put, nth, Nat.reduceAdd, Nat.zero_add]
    rw [fev_rd (r1 _ _)]
    simp only [fe_cons, execOp, opd, putT, put, nth, Nat.reduceAdd]
    rw [fev_rd (r2 _), words]
    simp only [fe_cons, hkr, execOp, opd, opds, putT, put, nth, doCall, callV_func, List.nil_append, List.append_nil, Nat.reduceAdd]
    refine fev_free hf (f47 s ns[i] _ _ hs hxi Free.none) (f47 s ns[i] _ _ hs hxi hf) fun v6 H6 n6 hn6 f6 ⟨e6, o6⟩ => ?_
    subst e6
    simp only [fe_cons, fev_pure, core1, tyr, execOp, opd, putT, put, nth, zeroOf, cel, alloc, doAlloc, newRow, extract, getO, List.getElem?_cons_succ, List.getElem?_cons_zero, Nat.reduceAdd, W]
    refine fev_free f6 (al25 _ _) (al25 _ _) fun v7 H7 n7 hn7 f7 ⟨e7, a7, o7, en7⟩ => ?_
    subst e7; subst en7
    simp only [fe_cons, execOp, opd, putT, put, nth, Nat.reduceAdd]
    refine fev_all4 a7 ti25 rfl fun b8 k8 => ?_
    have k8 := pick_wd k8
    simp only [fe_nil, fe_cons, fev_pure, core1, fgr, execOp, opd, putT, put, nth, forgetL, Nat.reduceAdd]
    refine ⟨(by (try simp (disch := omega) only [fine, List.all_cons, List.all_nil, clash_pl, clash_pr, Bool.not_false, Bool.true_or, Bool.and_true, Bool.true_and, clash_rw, clash_nn, clash_nw, clash_xn]); repeat' (first | rfl | exact (Bool.or_eq_true _ _).mpr (.inr rfl) | refine (Bool.and_eq_true _ _).mpr ⟨?_, ?_⟩)), ?_⟩
    have a3 := ((a3.keep (o6 _ b3)).keep (o7 _ (by omega))).upd (i := n6) (b := some b8) (by omega)
    have a2 := ((a2.keep (o6 _ b2)).keep (o7 _ (by omega))).upd (i := n6) (b := some b8) (by omega)
    have ho8 : Old h0 (upd H7 n6 (some b8)) N := fun j hj => by rw [upd_ne _ _ (by omega), o7 j (by omega), o6 j (by omega)]; exact ho j hj
    have f8 : Free (upd H7 n6 (some b8)) (n6 + 1) := f7.upd (by omega)
    generalize upd H7 n6 (some b8) = H8 at *
    by_cases c : b256 ≤ s + ns[i]
    · have cd := decide_eq_true c
      rw [if_pos c] at he
      simp only [core1, tyr, hkr, execOp, opd, opds, ops2, putT, put, nth, doCall, callV_func, sizeOf, cel, getO, List.nil_append, List.append_nil, build, fill, cd]
      refine opv_callf f8 (f49 0 H8 _ (by decide) f8) fun v9 H9 n9 hn9 f9 ⟨e9, o9⟩ => ?_
      subst e9
      simp only [core1, execOp, opd, putT, put, nth, W]
      refine opv_all4 (a2.keep (o9 _ (by omega))) ti25 rfl fun b9 k9 => ?_
      have k9 := pick_wd k9
      simp only [core1, fgr, putT, forgetL]
      refine hR _ _ _ _ _ _ _ _ _ (k9.ext fun j hj => by rw [he]; rfl) (fun j hj => ?_)
      rw [upd_ne _ _ (by omega), o9 j (by omega)]; exact ho8 j hj
    · have cd := decide_eq_false c
      rw [if_neg c] at he
      rw [Nat.mod_eq_of_lt (by omega)] at k8
      simp only [core1, execOp, opd, nth, cd]
      rw [opv_rd (k8.all ti25 rfl rfl), range4]
      simp only [core1, execOp, opd, putT, put, nth]
      refine opv_all4 a3 ti25 rfl fun b9 k9 => ?_
      have k9 := pick_wd k9
      simp only [core1, fgr, execOp, opd, ofValue, putT, put, nth, forgetL, bor, binInt, shiftB, intOp, wrapI, decide_true, hw]
      refine ih (i + 1) (s + ns[i]) _ _ _ _ _ _ (by omega) (by omega) he (a2.upd d) k9 (by omega) (by omega) (f8.upd (by omega)) (fun j hj => ?_)
      rw [upd_ne _ _ (by omega)]; exact ho8 j hj
theorem ArgW.rd {v : AVal} {ns : List Nat} (hv : ArgW v ns) (h : Hp) (j : Nat) (hj : j < ns.length) : ∃ p, (∀ h' n', Rd (indexAddr env 22 v (.int .i64 (j : Nat))) h' n' [] p) ∧ ∀ n, Rd (load env 25 p) h n [] (.agg (words ns[j])) := by
  cases hv with
  | nils => cases hj
  | isl f ns hl hc =>
    refine ⟨.ip f (0 + ns.length * 4) (0 + j * 4), fun h' n' => ?_, fun n => ?_⟩
    · have hu : und env 22 = M.pure (.slice 25) := rfl
      have hz : sizeOf env 25 = M.pure 4 := rfl
      simp only [indexAddr, hu, hz, bind_pure, intK, slK, idx, bind_assoc, Int.toNat_natCast]
      exact Rd.bind (i2 := []) (Rd.ob (by simp; omega)) (Rd.pure _)
    · have hi : ti env 25 = M.pure ty25.i := rfl
      have ha : aggB ty25.i.desc = true := rfl
      simp only [load, hi, bind_pure, ha, readCells, bind_assoc]
      refine Rd.bind (i2 := []) (Rd.ob (ble_of (by show 0 + j * 4 + 4 ≤ _; omega))) ?_
      show Rd (M.pure (AVal.agg (cellsOf f (0 + j * 4) 4))) h n [] _
      rw [Nat.zero_add, (hc j hj).2]
      exact Rd.pure _
theorem f13 (v : AVal) (ns : List Nat) (hv : ArgW v ns) (h : Hp) (n : Nat) (hf : Free h n) : Wp (callI env (evalW env) 13 [v]) h n fun v' h' n' => v' = W (sumV ns 0) ∧ Old h h' n := by
  refine wp_callI ff13 fi13 ?_
  simp only [fu13, Try.f13, Option.getD_some, List.replicate, core1, tyr, fgr, execOp, opd, ops2, putT, put, nth, forgetL, sizeOf, zeroOf, cel, alloc, doAlloc, newRow, getO, ended, resultOf, oneOrTup, List.cons_append, List.nil_append, List.length_cons, List.length_nil, Nat.reduceSub, Nat.zero_add, build, fill, List.length_cons, List.length_nil]
  refine opv_all4 (arr_0 (upd_same _ _ _)) ti25 rfl fun b5 k5 => ?_
  have k5 : Arr .u64 _ (n + 1) 4 (fun j => (wd 0 j : Nat)) := k5.ext fun j hj => by
    match j, hj with
    | 0, _ => rfl
    | 1, _ => rfl
    | 2, _ => rfl
    | 3, _ => rfl
  simp only [core1, fgr, execOp, opd, ofValue, putT, put, forgetL]
  refine loop13 _ _ v ns n n (n + 1) hv.short (by omega) (by omega) h (fun h' _ => hv.r h') (hv.r h).lt (fun h' _ => hv.rd h') ?_ ?_ ns.length 0 0 _ (n + 1 + 1) _ _ _ _ (Nat.zero_add _) (by decide) rfl (arr_0 (by rw [upd_ne _ _ (by omega), upd_ne _ _ (by omega)]; exact upd_same _ _ _)) k5 (by omega) (by omega) ((hf.new.new).upd (by omega)) (fun j hj => by simp (disch := omega) only [upd_ne])
  · intro h' n' x0 x4 x5 x6 x11 x23 a2 a3 ho
    simp only [core1, execOp, opd, nth]
    rw [opv_rd (a3.all ti25 rfl rfl), range4]
    simp only [core1, execOp, opd, putT, put, nth]
    refine opv_all4 a2 ti25 rfl fun bb hbb => ?_
    simp only [core1, fgr, putT, nth, forgetL, true_and, wp_pure, wp_rd (hbb.all ti25 rfl rfl), range4, pick4]
    exact ⟨rfl, fun j hj => by rw [upd_ne _ _ (by omega)]; exact ho j hj⟩
  · intro h' n' x0 x3 x4 x5 x6 x11 x23 a2 ho
    simp only [core1, nth, true_and, wp_pure, wp_rd (a2.all ti25 rfl rfl), range4]
    exact ⟨rfl, ho⟩
def scaleQ (t by_ of most : Nat) : Nat := (scaleV t by_ of most).getD 0
def scaleE (t by_ of most : Nat) : Int := match scaleV t by_ of most with | none => 50 | some _ => 0
theorem scaleA_eq (t by_ of most : Nat) : scaleA t by_ of most = .tup [W (scaleQ t by_ of most), .int .i64 (scaleE t by_ of most)] := by
  unfold scaleA scaleQ scaleE
  cases scaleV t by_ of most <;> rfl
/- A number's bytes: the program's and the document's. -/
theorem t86 : und env 86 = M.pure (.slice 5) := rfl
theorem s5 : sizeOf env 5 = M.pure 1 := rfl
def byN (a i : Nat) : Nat := a / 2 ^ (8 * i) % 256
theorem byte_wd (a i : Nat) : wd a (i / 8) / 2 ^ (i % 8 * 8) % 256 = byN a i := by
  have hs : i % 8 < 8 := Nat.mod_lt _ (by decide)
  unfold wd byN
  rw [← pow_split (i % 8 * 8) (by omega), Nat.mul_comm (2 ^ (64 - i % 8 * 8))]
  rw [Nat.mod_mul_right_div_self, Nat.mod_mod_of_dvd _ (show 256 ∣ 2 ^ (64 - i % 8 * 8) from ⟨2 ^ (56 - i % 8 * 8), by rw [show (256 : Nat) = 2 ^ 8 from rfl, ← Nat.pow_add]; congr 1; omega⟩)]
  rw [Nat.div_div_eq_div_mul, ← Nat.pow_add]
  congr 3
  omega
theorem byN_lt (a i : Nat) : byN a i < 256 := Nat.mod_lt _ (by decide)
/-- A number's bytes, in memory that was just made. -/
structure NewY (h : Hp) (n : Nat) (v : AVal) (a : Nat) (h' : Hp) (n' : Nat) (id : Nat) : Prop where
  eq : v = .sl id 0 32 (some 32) 1
  ge : n ≤ id
  lt : id < n'
  nums : Nums .u8 h' v id 0 32 32 (fun j => (byN a j : Nat))
  old : Old h h' n
theorem u8wrap (m : Nat) : IntKind.u8.wrap (m : Int) = ((m % 256 : Nat) : Int) := by
  have h1 : IntKind.u8.wrap (m : Int) = (m : Int) % 256 := rfl
  rw [h1]; omega
theorem loop67 (Q : Post0) (ks : List Kf) (a i1 i3 n : Nat) (v y2 : AVal) (d1 : i1 ≠ i3) (b3 : i3 < n) (h0 : Hp)
    (hq : ∀ (h : Hp) (x0 x4 x7 x8 x9 : AVal), Nums .u8 h v i3 0 32 32 (fun j => (byN a j : Nat)) → (∀ j, j ≠ i3 → h j = h0 j) → Kont env 67 none Q ks (.exit 0) (x0 :: .ptr i1 0 :: y2 :: v :: x4 :: AVal.junk :: AVal.junk :: x7 :: x8 :: x9 :: AVal.junk :: AVal.junk :: AVal.junk :: AVal.junk :: AVal.junk :: AVal.junk :: AVal.junk :: AVal.junk :: AVal.junk :: AVal.junk :: AVal.junk :: AVal.junk :: AVal.junk :: AVal.junk :: AVal.junk :: []) h n) :
    ∀ (k i : Nat) (h : Hp) (x0 x4 x9 : AVal), i + k = 32 → Arr .u64 h i1 4 (fun j => (wd a j : Nat)) → Nums .u8 h v i3 0 32 32 (fun j => if j < i then (byN a j : Nat) else 0) → (∀ j, j ≠ i3 → h j = h0 j) →
    Run env 67 none Q (.loop lp67_0) ks (x0 :: .ptr i1 0 :: y2 :: v :: x4 :: AVal.junk :: AVal.junk :: .int .i64 32 :: .int .i64 (i : Nat) :: x9 :: AVal.junk :: AVal.junk :: AVal.junk :: AVal.junk :: AVal.junk :: AVal.junk :: AVal.junk :: AVal.junk :: AVal.junk :: AVal.junk :: AVal.junk :: AVal.junk :: AVal.junk :: AVal.junk :: AVal.junk :: []) h n := by
  intro k
  induction k with
  | zero =>
    intro i h x0 x4 x9 hi ha hv hk
    have : i = 32 := by omega
    subst this
    have hc : ¬ ((32 : Nat) : Int) < 32 := by decide
    rw [run_loop]
    simp only [lp67_0, loopsOf, Try.f67, Option.getD_some, core1, fgr, execOp, opd, putT, put, nth, forgetL, bor, binInt, shiftB, intOp, List.nil_append, List.append_nil, Int.cast_ofNat_Int, Int.reduceLT, decide_true, decide_false, List.getD_cons_zero]
    exact hq h _ _ _ _ _ (hv.ext fun j hj => if_pos hj) hk
  | succ k ih =>
    intro i h x0 x4 x9 hi ha hv hk
    have h4 : i < 32 := by omega
    have hc : ((i : Nat) : Int) < 32 := by omega
    have hw : IntKind.i64.wrap (((i : Nat) : Int) + 1) = ((i + 1 : Nat) : Int) := by rw [w64 (by omega) (by omega)]; omega
    have q1 : IntKind.i64.wrap (Int.tdiv ((i : Nat) : Int) 8) = ((i / 8 : Nat) : Int) := by rw [Int.tdiv_eq_ediv_of_nonneg (by omega), w64 (by omega) (by omega)]; omega
    have q2 : IntKind.i64.wrap (Int.tmod ((i : Nat) : Int) 8 * 8) = ((i % 8 * 8 : Nat) : Int) := by rw [Int.tmod_eq_emod_of_nonneg (by omega), w64 (by omega) (by omega)]; omega
    have h64 : i / 8 < 4 := by omega
    have h0r : (0 : Int) ≤ ((i % 8 * 8 : Nat) : Int) := by omega
    rw [run_loop]
    simp only [lp67_0, loopsOf, Try.f67, Option.getD_some, core1, fgr, execOp, opd, ofValue, putT, put, nth, forgetL, bor, binInt, shiftB, intOp, wrapI, List.nil_append, List.append_nil, Int.reduceNe, decide_true, true_and, List.getD_cons_zero, hc, q1]
    rw [opv_rd (arr_idx t25 s23 rfl h64)]
    simp only [core1, execOp, opd, putT, put, nth]
    rw [opv_rd (ha.load ti23 rfl h64)]
    simp only [core1, tyr, execOp, opd, ofValue, putT, put, nth, und, lenOf, bor, binInt, shiftB, shiftOp, intOp, wrapI, strK, intK, Int.reduceNe, decide_true, true_and, convert, convStr, isU8, q2, h0r, ushr _ (i % 8 * 8) (by omega), u8wrap, byte_wd]
    rw [opv_rd (hv.idx0 t86 s5 rfl h4)]
    simp only [core1, execOp, opd, putT, put, nth]
    refine hv.store0 ti5 rfl h4 fun b hb => ?_
    simp only [core1, fgr, execOp, opd, ofValue, putT, put, nth, forgetL, bor, binInt, shiftB, intOp, wrapI, decide_true, hw]
    refine ih (i + 1) _ _ _ _ (by omega) (ha.upd d1) (hb.ext fun j hj => ?_) (fun j hj => by rw [upd_ne _ _ hj]; exact hk j hj)
    by_cases e : j = i
    · subst e
      simp only [if_pos (Nat.lt_succ_self j), ↓reduceIte]
    · by_cases e2 : j < i
      · simp only [if_neg e, if_pos e2, if_pos (show j < i + 1 by omega)]
      · simp only [if_neg e, if_neg e2, if_neg (show ¬ j < i + 1 by omega)]
theorem f67 (a : Nat) (h : Hp) (n : Nat) : Wp (callI env (evalW env) 67 [W a]) h n fun v' h' n' => ∃ id, NewY h n v' a h' n' id := by
  refine wp_callI ff67 fi67 ?_
  simp (disch := omega) only [fu67, Try.f67, Option.getD_some, List.replicate, core1, tyr, fgr, execOp, opd, ofValue, putT, put, nth, forgetL, cel, alloc, newRow, ended, resultOf, oneOrTup, List.cons_append, List.nil_append, List.length_cons, List.length_nil, Nat.reduceSub, Nat.zero_add, wp_pure, List.length_cons, List.length_nil, W]
  refine nums_make (m := 32) rfl t86 ti5 rfl rfl (by decide) (by decide) fun hv => ?_
  simp only [core1, fgr, execOp, opd, opds, ofValue, putT, put, nth, forgetL, doCall, builtin, one1, Int.cast_ofNat_Int, hv.len t86]
  refine loop67 _ _ a n (n + 1) (n + 1 + 1) _ _ (by omega) (by omega) _ ?_ 32 0 _ _ _ _ rfl (arr_W (by rw [upd_ne _ _ (by omega)]; exact upd_same _ _ _)) (hv.ext fun j hj => by simp) (fun _ _ => rfl)
  intro h' x0 x4 x7 x8 x9 hv hk
  simp only [core1, fgr, execOp, opd, putT, put, nth, forgetL, true_and]
  refine ⟨n + 1, rfl, by omega, by omega, hv, fun j hj => ?_⟩
  rw [hk j (by omega)]
  simp (disch := omega) only [upd_ne]
/-- .. bit by bit. -/
def bpart (a i j : Nat) : Nat := a / 2 ^ (8 * j) % 2 ^ min 8 (i - 8 * j)
theorem bpart_zero (a j : Nat) : bpart a 0 j = 0 := by
  unfold bpart
  rw [show min 8 (0 - 8 * j) = 0 by omega]; exact Nat.mod_one _
theorem bpart_all (a j : Nat) (hj : j < 32) : bpart a 256 j = byN a j := by
  unfold bpart byN
  rw [show min 8 (256 - 8 * j) = 8 by omega]
theorem bpart_step (a i j : Nat) : bpart a (i + 1) j = if j = i / 8 then bpart a i j + (a / 2 ^ i % 2) * 2 ^ (i % 8) else bpart a i j := by
  unfold bpart
  by_cases h : j = i / 8
  · subst h
    rw [if_pos rfl, show min 8 (i + 1 - 8 * (i / 8)) = i % 8 + 1 by omega, show min 8 (i - 8 * (i / 8)) = i % 8 by omega, mod_succ_bit, Nat.div_div_eq_div_mul, ← Nat.pow_add, show 8 * (i / 8) + i % 8 = i by omega, Nat.mul_comm (2 ^ (i % 8))]
  · rw [if_neg h]
    by_cases h2 : j < i / 8
    · rw [show min 8 (i + 1 - 8 * j) = min 8 (i - 8 * j) by omega]
    · rw [show min 8 (i + 1 - 8 * j) = min 8 (i - 8 * j) by omega]
theorem bpart_lt (a i : Nat) : bpart a i (i / 8) < 2 ^ (i % 8) := by
  unfold bpart
  rw [show min 8 (i - 8 * (i / 8)) = i % 8 by omega]
  exact Nat.mod_lt _ (Nat.two_pow_pos _)
theorem loop53 (Q : Post0) (ks : List Kf) (a i3 i4 n : Nat) (v3 v4 y1 y2 : AVal) (d1 : i3 ≠ i4) (b4 : i4 < n) (h0 : Hp)
    (hq : ∀ (h : Hp) (x0 x5 x10 x17 : AVal), Nums .u8 h v4 i4 0 32 32 (fun j => (byN a j : Nat)) → (∀ j, j ≠ i4 → h j = h0 j) → Kont env 53 none Q ks (.exit 0) (x0 :: y1 :: y2 :: v3 :: v4 :: x5 :: AVal.junk :: AVal.junk :: AVal.junk :: AVal.junk :: x10 :: AVal.junk :: AVal.junk :: AVal.junk :: AVal.junk :: AVal.junk :: AVal.junk :: x17 :: AVal.junk :: AVal.junk :: AVal.junk :: AVal.junk :: AVal.junk :: AVal.junk :: AVal.junk :: AVal.junk :: AVal.junk :: AVal.junk :: AVal.junk :: AVal.junk :: AVal.junk :: AVal.junk :: AVal.junk :: []) h n) :
    ∀ (k i : Nat) (h : Hp) (x0 x10 x17 : AVal), i + k = 256 → Nums .i64 h v3 i3 0 256 256 (bit a) → Nums .u8 h v4 i4 0 32 32 (fun j => (bpart a i j : Nat)) → (∀ j, j ≠ i4 → h j = h0 j) →
    Run env 53 none Q (.loop lp53_0) ks (x0 :: y1 :: y2 :: v3 :: v4 :: .int .i64 (i : Nat) :: AVal.junk :: AVal.junk :: AVal.junk :: AVal.junk :: x10 :: AVal.junk :: AVal.junk :: AVal.junk :: AVal.junk :: AVal.junk :: AVal.junk :: x17 :: AVal.junk :: AVal.junk :: AVal.junk :: AVal.junk :: AVal.junk :: AVal.junk :: AVal.junk :: AVal.junk :: AVal.junk :: AVal.junk :: AVal.junk :: AVal.junk :: AVal.junk :: AVal.junk :: AVal.junk :: []) h n := by
  intro k
  induction k with
  | zero =>
    intro i h x0 x10 x17 hi ha hv hk
    have : i = 256 := by omega
    subst this
    have hc : ¬ ((256 : Nat) : Int) < 256 := by decide
    rw [run_loop]
    simp only [lp53_0, loopsOf, Try.f53, Option.getD_some, core1, fgr, execOp, opd, ofValue, putT, put, nth, forgetL, bor, binInt, shiftB, intOp, List.nil_append, List.append_nil, Int.cast_ofNat_Int, Int.reduceLT, decide_true, decide_false, List.getD_cons_zero]
    exact hq h _ _ _ _ (hv.ext fun j hj => by rw [bpart_all a j hj]) hk
  | succ k ih =>
    intro i h x0 x10 x17 hi ha hv hk
    have h4 : i < 256 := by omega
    have hc : ((i : Nat) : Int) < 256 := by omega
    have hw : IntKind.i64.wrap (((i : Nat) : Int) + 1) = ((i + 1 : Nat) : Int) := by rw [w64 (by omega) (by omega)]; omega
    have q1 : IntKind.i64.wrap (Int.tdiv ((i : Nat) : Int) 8) = ((i / 8 : Nat) : Int) := by rw [Int.tdiv_eq_ediv_of_nonneg (by omega), w64 (by omega) (by omega)]; omega
    have q2 : IntKind.u64.wrap (Int.tmod ((i : Nat) : Int) 8) = ((i % 8 : Nat) : Int) := by rw [Int.tmod_eq_emod_of_nonneg (by omega), wu64 (by omega) (by omega)]; omega
    have h64 : i / 8 < 32 := by omega
    have hr8 : i % 8 < 8 := Nat.mod_lt _ (by decide)
    have h0r : (0 : Int) ≤ ((i % 8 : Nat) : Int) := by omega
    have pl : 2 ^ (i % 8) ≤ 2 ^ 7 := Nat.pow_le_pow_right (by decide) (by omega)
    have pt := bpart_lt a i
    have step : ∀ z : Nat, bit a i = (z : Nat) → ∀ j, bpart a (i + 1) j = if j = i / 8 then bpart a i (i / 8) + z * 2 ^ (i % 8) else bpart a i j := fun z hz j => by
      have : a / 2 ^ i % 2 = z := Int.ofNat.inj hz
      rw [bpart_step, this]
      split
      · rename_i e; rw [e]
      · rfl
    rw [run_loop]
    simp only [lp53_0, loopsOf, Try.f53, Option.getD_some, core1, fgr, execOp, opd, ofValue, putT, put, nth, forgetL, bor, binInt, shiftB, intOp, List.nil_append, List.append_nil, decide_true, List.getD_cons_zero, hc]
    rw [opv_rd (ha.idx0 t78 s3 rfl h4)]
    simp only [core1, execOp, opd, putT, put, nth]
    rw [opv_rd (ha.load0 ti3 rfl h4)]
    rcases bit_lt a i with b | b
    · simp only [core1, fgr, execOp, opd, ofValue, putT, put, nth, forgetL, bor, binInt, shiftB, intOp, wrapI, Int.reduceLT, gt_iff_lt, decide_true, decide_false, b, hw]
      refine ih (i + 1) _ _ _ _ (by omega) ha (hv.ext fun j hj => ?_) hk
      rw [step 0 b, Nat.zero_mul, Nat.add_zero]
      split
      · rename_i e; rw [e]
      · rfl
    · have sh : IntKind.u8.wrap ((1 : Int) * 2 ^ (min ((i % 8 : Nat) : Int).toNat IntKind.u8.bits)) = ((2 ^ (i % 8) : Nat) : Int) := by
        rw [Int.one_mul, show min ((i % 8 : Nat) : Int).toNat IntKind.u8.bits = i % 8 by show min (((i % 8 : Nat) : Int).toNat) 8 = _; omega]
        rw [show (2 : Int) ^ (i % 8) = ((2 ^ (i % 8) : Nat) : Int) by simp, u8wrap, Nat.mod_eq_of_lt (by omega)]
      have ad : IntKind.u8.wrap (((bpart a i (i / 8) : Nat) : Int) + ((2 ^ (i % 8) : Nat) : Int)) = ((bpart a i (i / 8) + 2 ^ (i % 8) : Nat) : Int) := by
        rw [← Int.natCast_add, u8wrap, Nat.mod_eq_of_lt (by omega)]
      simp only [core1, fgr, execOp, opd, ofValue, putT, put, nth, forgetL, bor, binInt, shiftB, intOp, wrapI, Int.reduceLT, Int.reduceNe, gt_iff_lt, decide_true, true_and, b, q1]
      rw [opv_rd (hv.idx0 t86 s5 rfl h64)]
      simp only [core1, execOp, opd, putT, put, nth]
      rw [opv_rd (hv.load0 ti5 rfl h64)]
      simp only [core1, tyr, execOp, opd, ofValue, putT, put, nth, und, lenOf, bor, binInt, shiftB, shiftOp, intOp, wrapI, strK, intK, Int.reduceNe, decide_true, true_and, convert, convStr, isU8, q2, h0r, sh, ad]
      rw [opv_rd (hv.idx0 t86 s5 rfl h64)]
      simp only [core1, execOp, opd, putT, put, nth]
      refine hv.store0 ti5 rfl h64 fun bb hb => ?_
      simp only [core1, fgr, execOp, opd, ofValue, putT, put, nth, forgetL, bor, binInt, shiftB, intOp, wrapI, decide_true, hw]
      refine ih (i + 1) _ _ _ _ (by omega) (ha.upd d1) (hb.ext fun j hj => ?_) (fun j hj => by rw [upd_ne _ _ hj]; exact hk j hj)
      rw [step 1 b, Nat.one_mul]
      split <;> rfl
theorem f53 (a : Nat) (h : Hp) (n : Nat) (hf : Free h n) : Wp (callI env (evalW env) 53 [W a]) h n fun v' h' n' => ∃ id, NewY h n v' a h' n' id := by
  refine wp_callI ff53 fi53 ?_
  simp (disch := omega) only [fu53, Try.f53, Option.getD_some, List.replicate, core1, tyr, fgr, hkr, execOp, opd, opds, ofValue, putT, put, nth, forgetL, doCall, callV_func, readCells, cellsOf, aggB, cel, alloc, newRow, ended, resultOf, oneOrTup, rowK, List.cons_append, List.nil_append, List.append_nil, List.length_cons, List.length_nil, Nat.reduceAdd, Nat.reduceSub, true_and, Nat.zero_add, wp_pure, memr, List.take_succ_cons, List.take_zero, List.drop_zero, Nat.ble, Cont.size, Cont.sub, upd_same, Option.some.injEq, exists_eq_left', true_and, List.length_cons, List.length_nil, W]
  refine opv_callf hf.new (f44 a _ _) fun v1 h1 n1 hn1 f1 ⟨b1, g1, o1⟩ => ?_
  obtain ⟨i3, l3, e3, nu⟩ := b1.nums
  have hk : ∃ id m cap, v1 = .sl id 0 m cap 1 := by obtain ⟨id, _, e, _⟩ := b1; exact ⟨id, _, _, e⟩
  obtain ⟨_, _, _, rfl⟩ := hk
  simp only [core1, fgr, execOp, opd, ofValue, putT, put, nth, forgetL]
  refine nums_make (m := 32) rfl t86 ti5 rfl rfl (by decide) (by decide) fun hv => ?_
  simp only [core1, fgr, execOp, opd, ofValue, putT, put, nth, forgetL]
  refine loop53 _ _ a i3 n1 (n1 + 1) _ _ _ _ (by omega) (by omega) _ ?_ 256 0 _ _ _ _ rfl (nu.upd (by omega)) (hv.ext fun j hj => by rw [bpart_zero]; rfl) (fun _ _ => rfl)
  intro h' x0 x5 x10 x17 hv hk
  simp only [core1, fgr, execOp, opd, putT, put, nth, forgetL, true_and]
  refine ⟨n1, rfl, by omega, by omega, hv, fun j hj => ?_⟩
  rw [hk j (by omega), upd_ne _ _ (by omega), o1 j (by omega), upd_ne _ _ (by omega)]
/- How many bytes a number has; its compact form, in numbers; 32 bits. -/
theorem wrap32 (m : Nat) : IntKind.u32.wrap (m : Int) = ((m % 4294967296 : Nat) : Int) := by
  have h1 : IntKind.u32.wrap (m : Int) = (m : Int) % 4294967296 := rfl
  rw [h1]; omega
theorem bv32 {x : Nat} (hx : x < 4294967296) : (BitVec.ofInt IntKind.u32.bits (x : Int)).toNat = x := by
  have h0 : IntKind.u32.bits = 32 := rfl
  rw [BitVec.toNat_ofInt, h0]
  have : (((x : Nat) : Int) % ((2 ^ 32 : Nat) : Int)) = ((x : Nat) : Int) := by omega
  rw [this]; rfl
theorem or32 {x y : Nat} (hx : x < 4294967296) (hy : y < 4294967296) : IntKind.u32.wrap ((BitVec.ofInt IntKind.u32.bits (x : Int) ||| BitVec.ofInt IntKind.u32.bits (y : Int)).toNat : Int) = ((x ||| y : Nat) : Int) := by
  rw [BitVec.toNat_or, bv32 hx, bv32 hy, wrap32, Nat.mod_eq_of_lt]
  exact Nat.or_lt_two_pow (n := 32) hx hy
theorem shl32 (x s : Nat) (hs : s ≤ 32) : IntKind.u32.wrap ((x : Int) * 2 ^ (min ((s : Nat) : Int).toNat IntKind.u32.bits)) = ((x * 2 ^ s % 4294967296 : Nat) : Int) := by
  rw [show min ((s : Nat) : Int).toNat IntKind.u32.bits = s by show min (((s : Nat) : Int).toNat) 32 = s; omega]
  rw [show (2 : Int) ^ s = ((2 ^ s : Nat) : Int) by simp, ← Int.natCast_mul, wrap32]
theorem shr32 (x s : Nat) (hs : s ≤ 32) : Int.fdiv (x : Int) (2 ^ (min ((s : Nat) : Int).toNat IntKind.u32.bits)) = ((x / 2 ^ s : Nat) : Int) := by
  rw [Int.toNat_natCast, show min s IntKind.u32.bits = s from Nat.min_eq_left hs, Int.fdiv_eq_ediv_of_nonneg _ (by exact_mod_cast Nat.zero_le _)]
  norm_cast
/-- A number has s bytes. -/
def isSz (a s : Nat) : Prop := a < 2 ^ (8 * s) ∧ (s = 0 ∨ 2 ^ (8 * (s - 1)) ≤ a)
theorem isSz.zero {a s m : Nat} (hs : isSz a s) : a / 2 ^ (8 * m) = 0 ↔ s ≤ m := by
  rw [Nat.div_eq_zero_iff_lt (Nat.two_pow_pos _)]
  refine ⟨fun h => ?_, fun h => Nat.lt_of_lt_of_le hs.1 (Nat.pow_le_pow_right (by decide) (by omega))⟩
  rcases hs.2 with h0 | h0
  · omega
  · by_cases q : s ≤ m
    · exact q
    · have : 2 ^ (8 * m) ≤ 2 ^ (8 * (s - 1)) := Nat.pow_le_pow_right (by decide) (by omega)
      omega
theorem isSz.lt {a s m : Nat} (hs : isSz a s) : a / 2 ^ (8 * m) < 2 ^ (8 * (s - m)) := by
  rw [Nat.div_lt_iff_lt_mul (Nat.two_pow_pos _), ← Nat.pow_add]
  exact Nat.lt_of_lt_of_le hs.1 (Nat.pow_le_pow_right (by decide) (by omega))
theorem isSz.uniq {a s t : Nat} (hs : isSz a s) (ht : isSz a t) : s = t := by
  have h1 := (hs.zero (m := t)).1 ((ht.zero (m := t)).2 (Nat.le_refl _))
  have h2 := (ht.zero (m := s)).1 ((hs.zero (m := s)).2 (Nat.le_refl _))
  omega
def bsz (a : Nat) : Nat := if a = 0 then 0 else Nat.log2 a / 8 + 1
theorem isSz_bsz (a : Nat) : isSz a (bsz a) := by
  unfold bsz
  by_cases h : a = 0
  · rw [if_pos h]; exact ⟨by rw [h]; exact Nat.two_pow_pos _, .inl rfl⟩
  · rw [if_neg h]
    refine ⟨Nat.lt_of_lt_of_le Nat.lt_log2_self (Nat.pow_le_pow_right (by decide) (by omega)), .inr ?_⟩
    exact Nat.le_trans (Nat.pow_le_pow_right (by decide) (by omega)) (Nat.log2_self_le h)
theorem isSz.eq {a s : Nat} (hs : isSz a s) : s = bsz a := hs.uniq (isSz_bsz a)
theorem bsz_le {a : Nat} (ha : a < b256) : bsz a ≤ 32 := by
  refine ((isSz_bsz a).zero (m := 32)).1 ?_
  rw [Nat.div_eq_zero_iff_lt (Nat.two_pow_pos _)]
  rw [← p256]; exact ha
theorem bsz_pos {a : Nat} (ha : a ≠ 0) : 0 < bsz a := by unfold bsz; rw [if_neg ha]; omega
/-- The three first bytes. -/
def mantV (a : Nat) : Nat := a / 2 ^ (8 * (bsz a - 3)) * 2 ^ (8 * (3 - bsz a))
theorem mantV_lt (a : Nat) : mantV a < 16777216 := by
  unfold mantV
  have h := (isSz_bsz a).lt (m := bsz a - 3)
  by_cases c : bsz a ≤ 3
  · rw [show bsz a - (bsz a - 3) = bsz a by omega] at h
    calc _ < 2 ^ (8 * bsz a) * 2 ^ (8 * (3 - bsz a)) := (Nat.mul_lt_mul_right (Nat.two_pow_pos _)).2 h
      _ = 16777216 := by rw [← Nat.pow_add, show 8 * bsz a + 8 * (3 - bsz a) = 24 by omega]
  · rw [show 3 - bsz a = 0 by omega, Nat.mul_zero, Nat.pow_zero, Nat.mul_one]
    rw [show bsz a - (bsz a - 3) = 3 by omega] at h
    exact h
def compV (a : Nat) : Nat := if 8388608 ≤ mantV a then (bsz a + 1) * 16777216 + mantV a / 256 else bsz a * 16777216 + mantV a
theorem compV_lt {a : Nat} (ha : a < b256) : compV a < 4294967296 := by
  have h1 := mantV_lt a
  have h2 := bsz_le ha
  unfold compV
  split <;> omega
/-- What is answered: none of 0. -/
def compA (a : Nat) : AVal := if a = 0 then .tup [.int .u32 0, .int .i64 50] else .tup [.int .u32 (compV a : Nat), .int .i64 0]
theorem byte_step (a k : Nat) : a / 2 ^ (8 * k) = a / 2 ^ (8 * (k + 1)) * 256 + byN a k := by
  unfold byN
  rw [show 8 * (k + 1) = 8 * k + 8 by omega, Nat.pow_add, ← Nat.div_div_eq_div_mul]
  omega
theorem arr_1 {k : IntKind} {z : Int} {id e : Nat} {h : Hp} (hh : h id = some (.row (.l [.int k z]) e)) : Arr k h id 1 (fun _ => z) :=
  ⟨_, e, hh, rfl, fun j hj => by
    match j, hj with
    | 0, _ => rfl⟩
theorem arr_one {k : IntKind} {z : Int} {h : Hp} {id : Nat} {f : Nat → Int} (ha : Arr k h id 1 (fun x => if x = 0 then z else f x)) : Arr k h id 1 (fun _ => z) := ha.ext fun j hj => if_pos (by omega)
/-- One number of a row is written in a region that draws, with what is looked at. -/
theorem fev_st {E : Env} {fn : FuncId} {rnd : Option Nat} {Q : Post0} {ks : List Kf} {tm : List AVal} {h : Hp} {n : Nat} {ops rest : List Oper} {d : Option Tmp} {k : IntKind} {id m : Nat} {f : Nat → Int} {o : Nat} {fs : List Foot} (hi : Arr k h id m f) {e : TypeId} {i : TI} (he : ti E e = M.pure i) (hs : i.size = 1) {j : Nat} (hj : j < m) {z : Int}
    (hq : ∀ b, Arr k (Go.Am.upd h id (some b)) id m (fun x => if x = j then z else f x) → Fe E fn rnd Q ks ops (o + 1) rest (putT tm d undef) (⟨o, [id], [id], n, n⟩ :: fs) (Go.Am.upd h id (some b)) n) :
    FeV E fn rnd Q ks ops o rest d tm fs (doStore E e (.ptr id j) (.int k z)) h n := by
  obtain ⟨cc, e', b1, b2, b3⟩ := hi
  have hw : Wr (doStore E e (.ptr id j) (.int k z)) h n [id] [id] undef (Go.Am.upd h id (some (.row (setAll cc j [.int k z]) e'))) := by
    simp only [doStore, Go.Am.store, he, bind_pure, AVal.cells, hs, List.length_singleton, show Nat.beq 1 1 = true from rfl, writeCells]
    refine Wr.ret (a := ()) ?_
    refine Wr.bind (rs := []) (Rd.get b1) ?_
    simp only [rowK]
    refine Wr.bind (rs := []) (i1 := []) (Rd.ob (ble_of (by omega))) ?_
    exact Wr.set b1
  refine fev_wr hw (hq _ ⟨_, e', upd_same _ _ _, ?_, fun x hx => ?_⟩)
  · simp only [setAll]; rw [cont_size_set]; exact b2
  · simp only [setAll]
    rw [cont_at_set _ _ _ _ (by omega)]
    by_cases q : x = j
    · simp only [if_pos q]
    · simp only [if_neg q]; exact b3 x hx
/- A number's compact form: the program's; the round over its bytes. -/
theorem f50 (a : Nat) (h : Hp) (n : Nat) : Wp (callI env (evalW env) 50 [W a]) h n fun v' h' n' => v' = .fn (.func 66) [] [.ptr n 0] ∧ h' = upd h n (some (.row (.l [.int .u64 (wd a 0 : Nat), .int .u64 (wd a 1 : Nat), .int .u64 (wd a 2 : Nat), .int .u64 (wd a 3 : Nat)]) 25)) ∧ n' = n + 1 := by
  refine wp_callI ff50 fi50 ?_
  simp only [fu50, Try.f50, Option.getD_some, List.replicate, core1, tyr, fgr, execOp, opd, opds, ofValue, putT, put, nth, forgetL, cel, alloc, newRow, ended, resultOf, oneOrTup, List.cons_append, List.nil_append, List.length_cons, List.length_nil, Nat.reduceSub, and_self, Nat.zero_add, wp_pure, W]
noncomputable def L15 (tm : List AVal) : ALoop := { state := .ready, pending := none, fn := 15, tmps := tm, params := [13, 14], assign := ra15_0, body := rb15_0 }
set_option maxHeartbeats 4000000 in
theorem loop66 (Q : Post0) (ks : List Kf) (N a s i1 i3 i4 i5 i6 id : Nat) (v3 : AVal) (ha : a < b256) (hs : isSz a s) (hs0 : 0 < s) (hs32 : s ≤ 32)
    (hd : i3 ≠ i4 ∧ i3 ≠ i5 ∧ i3 ≠ i6 ∧ i3 ≠ id ∧ i4 ≠ i5 ∧ i4 ≠ i6 ∧ i4 ≠ id ∧ i5 ≠ i6 ∧ i5 ≠ id ∧ i6 ≠ id) (hN : N ≤ i4 ∧ N ≤ i5 ∧ N ≤ i6 ∧ N ≤ id) (h0 : Hp) (n : Nat) (hn : i3 < n ∧ i4 < n ∧ i5 < n ∧ i6 < n ∧ id < n)
    (hA : ∀ (h : Hp) (tm' : List AVal) (x0 x1 x2 x3 x7 x8 x10 x12 x13 x14 x20 x23 x32 x34 x40 : AVal), s < 3 → h id = some (.loop (L15 (x0 :: x1 :: x2 :: x3 :: .ptr i4 0 :: .ptr i5 0 :: .ptr i6 0 :: x7 :: x8 :: AVal.junk :: x10 :: AVal.junk :: x12 :: x13 :: x14 :: AVal.junk :: AVal.junk :: AVal.junk :: AVal.junk :: AVal.junk :: x20 :: AVal.junk :: AVal.junk :: x23 :: AVal.junk :: AVal.junk :: AVal.junk :: AVal.junk :: AVal.junk :: AVal.junk :: AVal.junk :: AVal.junk :: x32 :: AVal.junk :: x34 :: AVal.junk :: AVal.junk :: AVal.junk :: AVal.junk :: AVal.junk :: x40 :: AVal.junk :: AVal.junk :: AVal.junk :: AVal.junk :: AVal.junk :: AVal.junk :: AVal.junk :: AVal.junk :: AVal.junk :: []))) → Arr .i64 h i4 1 (fun _ => (s : Nat)) → Arr .u32 h i5 1 (fun _ => (a : Nat)) → Arr .i64 h i6 1 (fun _ => (s : Nat)) → Old h0 h N → Free h n → Kont env 66 none Q ks (.exit 0) tm' h n)
    (hB : ∀ (h : Hp) (tm' : List AVal), 3 ≤ s → (∃ l, h id = some (.loop l) ∧ l.state = .done ∧ l.pending = some (.exit 0)) → Arr .i64 h i4 1 (fun _ => (s : Nat)) → Arr .u32 h i5 1 (fun _ => (a / 2 ^ (8 * (s - 3)) : Nat)) → Arr .i64 h i6 1 (fun _ => 3) → Old h0 h N → Free h n → Kont env 66 none Q ks .ret tm' h n) :
    ∀ (m : Nat) (h : Hp) (z11 z22 : AVal) (x0 x1 x2 x3 x7 x8 x10 x12 x13 x14 x20 x23 x32 x34 x40 : AVal), m ≤ 32 → s - m < 3 → h id = some (.loop (L15 (x0 :: x1 :: x2 :: x3 :: .ptr i4 0 :: .ptr i5 0 :: .ptr i6 0 :: x7 :: x8 :: AVal.junk :: x10 :: AVal.junk :: x12 :: x13 :: x14 :: AVal.junk :: AVal.junk :: AVal.junk :: AVal.junk :: AVal.junk :: x20 :: AVal.junk :: AVal.junk :: x23 :: AVal.junk :: AVal.junk :: AVal.junk :: AVal.junk :: AVal.junk :: AVal.junk :: AVal.junk :: AVal.junk :: x32 :: AVal.junk :: x34 :: AVal.junk :: AVal.junk :: AVal.junk :: AVal.junk :: AVal.junk :: x40 :: AVal.junk :: AVal.junk :: AVal.junk :: AVal.junk :: AVal.junk :: AVal.junk :: AVal.junk :: AVal.junk :: AVal.junk :: []))) →
    Nums .u8 h v3 i3 0 32 32 (fun j => (byN a j : Nat)) → Arr .i64 h i4 1 (fun _ => (if s ≤ m then 0 else s : Nat)) → Arr .u32 h i5 1 (fun _ => (a / 2 ^ (8 * m) : Nat)) → Arr .i64 h i6 1 (fun _ => (s - m : Nat)) → Old h0 h N → Free h n →
    Run env 66 none Q (.loop lp66_0) ks (.fn (.yield id) [] [] :: .ptr i1 0 :: AVal.junk :: v3 :: .int .i64 (((m : Nat) : Int) - 1) :: AVal.junk :: AVal.junk :: AVal.junk :: AVal.junk :: AVal.junk :: AVal.junk :: z11 :: AVal.junk :: AVal.junk :: AVal.junk :: AVal.junk :: AVal.junk :: AVal.junk :: AVal.junk :: AVal.junk :: AVal.junk :: AVal.junk :: z22 :: []) h n := by
  intro m
  induction m with
  | zero =>
    intro h z11 z22 x0 x1 x2 x3 x7 x8 x10 x12 x13 x14 x20 x23 x32 x34 x40 hm hsm hid h3 h4 h5 h6 ho hf
    have hc : ¬ (0 : Int) ≤ ((0 : Nat) : Int) - 1 := by decide
    rw [run_loop]
    simp only [lp66_0, loopsOf, Try.f66, Option.getD_some, core1, fgr, execOp, opd, ofValue, putT, put, nth, forgetL, bor, binInt, shiftB, intOp, List.nil_append, List.append_nil, Int.cast_ofNat_Int, Int.reduceLE, Int.reduceSub, Int.reduceNeg, ge_iff_le, decide_true, decide_false, List.getD_cons_zero]
    refine hA h _ _ _ _ _ _ _ _ _ _ _ _ _ _ _ _ (by omega) hid ?_ ?_ ?_ ho hf
    · rw [if_neg (by omega)] at h4; exact h4
    · rw [Nat.mul_zero, Nat.pow_zero, Nat.div_one] at h5; exact h5
    · rw [Nat.sub_zero] at h6; exact h6
  | succ m ih =>
    intro h z11 z22 x0 x1 x2 x3 x7 x8 x10 x12 x13 x14 x20 x23 x32 x34 x40 hm hsm hid h3 h4 h5 h6 ho hf
    have hc : (0 : Int) ≤ ((m : Nat) : Int) := by omega
    have hm1 : ((m + 1 : Nat) : Int) - 1 = ((m : Nat) : Int) := by omega
    have hwm : IntKind.i64.wrap (((m : Nat) : Int) - 1) = ((m : Nat) : Int) - 1 := w64 (by omega) (by omega)
    have hwp : IntKind.i64.wrap (((m : Nat) : Int) + 1) = ((m + 1 : Nat) : Int) := by rw [w64 (by omega) (by omega)]; omega
    have h32 : m < 32 := by omega
    rw [run_loop]
    simp only [lp66_0, loopsOf, Try.f66, Option.getD_some, core1, fgr, execOp, opd, ofValue, putT, put, nth, forgetL, bor, binInt, shiftB, intOp, wrapI, List.nil_append, List.append_nil, ge_iff_le, decide_true, List.getD_cons_zero, hm1, hc]
    rw [opv_rd (h3.idx0 t86 s5 rfl h32)]
    simp only [core1, execOp, opd, putT, put, nth]
    rw [opv_rd (h3.load0 ti5 rfl h32)]
    simp only [core1, execOp, opd, opds, putT, put, nth, doCall, hwp]
    refine opv_yield (l := L15 (x0 :: x1 :: x2 :: x3 :: .ptr i4 0 :: .ptr i5 0 :: .ptr i6 0 :: x7 :: x8 :: AVal.junk :: x10 :: AVal.junk :: x12 :: x13 :: x14 :: AVal.junk :: AVal.junk :: AVal.junk :: AVal.junk :: AVal.junk :: x20 :: AVal.junk :: AVal.junk :: x23 :: AVal.junk :: AVal.junk :: AVal.junk :: AVal.junk :: AVal.junk :: AVal.junk :: AVal.junk :: AVal.junk :: x32 :: AVal.junk :: x34 :: AVal.junk :: AVal.junk :: AVal.junk :: AVal.junk :: AVal.junk :: x40 :: AVal.junk :: AVal.junk :: AVal.junk :: AVal.junk :: AVal.junk :: AVal.junk :: AVal.junk :: AVal.junk :: AVal.junk :: [])) hid rfl rfl ?_
    simp only [ra15_0, List.getD_cons_zero, putAll, List.zip_cons_cons, List.zip_nil_left, L15, rangesOf, Try.f15, Option.getD_some, core1, fgr, execOp, opd, putT, put, nth, forgetL, unOp, List.nil_append, List.append_nil, true_and]
    refine ⟨_, hid, rfl, ?_⟩
    simp only [rb15_0, List.getD_cons_zero, L15, rangesOf, Try.f15, Option.getD_some, core1, execOp, opd, nth, List.nil_append, List.append_nil]
    generalize hG : upd h id (some (Blk.loop _)) = G
    have gid := (congrFun hG.symm id).trans (upd_same _ _ _)
    have gk : ∀ j, j ≠ id → G j = h j := fun j hj => by rw [← hG, upd_ne _ _ hj]
    have fG : Free G n := by rw [← hG]; exact hf.upd (by omega)
    have g3 := h3.keep (gk i3 (by omega))
    have g4 := h4.keep (gk i4 (by omega))
    have g5 := h5.keep (gk i5 (by omega))
    have g6 := h6.keep (gk i6 (by omega))
    have oG : Old h0 G N := fun j hj => by rw [gk j (by omega)]; exact ho j hj
    clear hG
    have st := byte_step a m
    have bl := byN_lt a m
    have z1 := hs.zero (m := m)
    have z2 := hs.zero (m := m + 1)
    rw [opv_rd (g4.load ti3 rfl (j := 0) (by decide))]
    by_cases c1 : s ≤ m
    · have e1 : (if s ≤ m + 1 then 0 else s) = 0 := if_pos (by omega)
      have e2 : byN a m = 0 := by rw [z1.2 c1] at st; omega
      have e3 : s - (m + 1) = 0 := by omega
      simp only [core1, fgr, execOp, opd, ofValue, putT, put, nth, forgetL, bor, binInt, shiftB, intOp, doPick, branch, List.getElem?_cons_succ, List.getElem?_cons_zero, Int.cast_ofNat_Int, decide_true, beq_self_eq_true, bne_self_eq_false, e1, e2]
      rw [opv_rd (g4.load ti3 rfl (j := 0) (by decide))]
      simp only [core1, fgr, execOp, opd, ofValue, putT, put, nth, forgetL, bor, binInt, shiftB, intOp, Int.cast_ofNat_Int, Int.reduceLT, gt_iff_lt, decide_true, decide_false, e1]
      rw [opv_rd (g6.load ti3 rfl (j := 0) (by decide))]
      simp only [core1, fgr, execOp, opd, ofValue, putT, put, nth, forgetL, bor, binInt, shiftB, intOp, Int.cast_ofNat_Int, int_beq, Int.reduceEq, decide_true, decide_false, e3]
      refine ⟨_, gid, ?_⟩
      simp only [core1, fgr, execOp, opd, ofValue, putT, put, nth, forgetL, bor, binInt, shiftB, intOp, wrapI, decide_true, Bool.not_true, normB, jumpOf, hwm]
      refine ih _ _ _ _ _ _ _ _ _ _ _ _ _ _ _ _ _ _ (by omega) (by omega) (upd_same _ _ _) (g3.upd (by omega)) ((g4.upd (by omega)).ext fun j hj => ?_) ((g5.upd (by omega)).ext fun j hj => ?_) ((g6.upd (by omega)).ext fun j hj => ?_) (fun j hj => ?_) (fG.upd (by omega))
      · rw [e1, if_pos c1]
      · rw [z1.2 c1, z2.2 (by omega)]
      · rw [e3, show s - m = 0 by omega]
      · rw [upd_ne _ _ (by omega)]; exact oG j hj
    have hpos : (0 : Int) < ((s : Nat) : Int) := by omega
    have hq := hs.lt (m := m + 1)
    have hq2 : a / 2 ^ (8 * (m + 1)) < 65536 := Nat.lt_of_lt_of_le hq (show _ ≤ 2 ^ 16 from Nat.pow_le_pow_right (by decide) (by omega))
    have sh := shl32 (a / 2 ^ (8 * (m + 1))) 8 (by decide)
    have cv : IntKind.u32.wrap ((byN a m : Nat) : Int) = ((byN a m : Nat) : Int) := by rw [wrap32, Nat.mod_eq_of_lt (by omega)]
    have orr : IntKind.u32.wrap ((BitVec.ofInt IntKind.u32.bits (((a / 2 ^ (8 * (m + 1))) * 2 ^ 8 % 4294967296 : Nat) : Int) ||| BitVec.ofInt IntKind.u32.bits ((byN a m : Nat) : Int)).toNat : Int) = ((a / 2 ^ (8 * m) : Nat) : Int) := by
      rw [or32 (Nat.mod_lt _ (by decide)) (by omega), Nat.mod_eq_of_lt (by omega), or_low _ _ 8 (Nat.mul_mod_left _ _) bl, st]
    have sh2 : IntKind.u32.wrap ((((a / 2 ^ (8 * (m + 1)) : Nat)) : Int) * 2 ^ (min (Int.toNat 8) IntKind.u32.bits)) = (((a / 2 ^ (8 * (m + 1))) * 2 ^ 8 % 4294967296 : Nat) : Int) := sh
    have w6 : IntKind.i64.wrap (((s - (m + 1) : Nat) : Int) + 1) = ((s - m : Nat) : Int) := by rw [w64 (by omega) (by omega)]; omega
    by_cases c2 : s = m + 1
    case' pos =>
      have e1 : (if s ≤ m + 1 then 0 else s) = 0 := if_pos (by omega)
      have e2 : ¬ ((byN a m : Nat) : Int) = 0 := by
        have := mt z1.1 c1
        rw [z2.2 (by omega)] at st
        omega
      simp only [core1, fgr, execOp, opd, ofValue, putT, put, nth, forgetL, bor, binInt, shiftB, intOp, doPick, branch, List.getElem?_cons_succ, List.getElem?_cons_zero, Int.cast_ofNat_Int, int_bne, not_false_eq_true, decide_true, beq_self_eq_true, e1, e2]
      refine opv_arr g4 ti3 rfl (j := 0) (by decide) fun b hb => ?_
      have k4 : Arr .i64 (upd G i4 (some b)) i4 1 (fun _ => (s : Nat)) := (arr_one hb).ext fun j hj => by rw [c2]
      generalize hG2 : upd G i4 (some b) = G2 at *
      have k3 := g3.keep (h' := G2) (by rw [← hG2, upd_ne _ _ (by omega)])
      have k5 := g5.keep (h' := G2) (by rw [← hG2, upd_ne _ _ (by omega)])
      have k6 := g6.keep (h' := G2) (by rw [← hG2, upd_ne _ _ (by omega)])
      have f2 : Free G2 n := by rw [← hG2]; exact fG.upd (by omega)
      have id2 := (show G2 id = G id by rw [← hG2, upd_ne _ _ (by omega)]).trans gid
      have o2 : Old h0 G2 N := fun j hj => by rw [← hG2, upd_ne _ _ (by omega)]; exact oG j hj
      clear hG2
      simp only [core1, fgr, execOp, opd, putT, nth, forgetL]
      rw [opv_rd (k4.load ti3 rfl (j := 0) (by decide))]
      simp only [core1, fgr, execOp, opd, ofValue, putT, put, nth, forgetL, bor, binInt, shiftB, intOp, gt_iff_lt, decide_true, hpos]
    case' neg =>
      have e1 : (if s ≤ m + 1 then 0 else s) = s := if_neg (by omega)
      have e2 : ¬ ((s : Nat) : Int) = 0 := by omega
      have k4 : Arr .i64 G i4 1 (fun _ => (s : Nat)) := g4.ext fun j hj => by rw [e1]
      generalize hG2 : G = G2 at *
      clear hG2
      have k3 := g3
      have k5 := g5
      have k6 := g6
      have f2 := fG
      have id2 := gid
      have o2 := oG
      simp only [core1, fgr, execOp, opd, ofValue, putT, put, nth, forgetL, bor, binInt, shiftB, intOp, doPick, branch, List.getElem?_cons_succ, List.getElem?_cons_zero, int_beq, decide_true, decide_false, e1, e2]
      rw [opv_rd (k4.load ti3 rfl (j := 0) (by decide))]
      simp only [core1, fgr, execOp, opd, ofValue, putT, put, nth, forgetL, bor, binInt, shiftB, intOp, gt_iff_lt, decide_true, hpos]
    all_goals
      refine run_draw.2 ⟨rfl, ?_⟩
      simp only [fe_cons, execOp, opd, nth]
      rw [fev_rd (k5.load ti35 rfl (j := 0) (by decide))]
      simp only [fe_cons, fev_ob, fev_pure, core1, tyr, execOp, opd, ofValue, putT, put, nth, und, lenOf, bor, binInt, shiftB, shiftOp, intOp, wrapI, strK, intK, Nat.reduceAdd, Int.reduceLE, decide_true, true_and, Nat.zero_add, convert, convStr, isU8, cv, sh2, orr]
      rw [fev_rd (k6.load ti3 rfl (j := 0) (by decide))]
      simp only [fe_cons, fev_pure, execOp, opd, ofValue, putT, put, nth, bor, binInt, shiftB, intOp, wrapI, Nat.reduceAdd, decide_true, w6]
      refine fev_st k5 ti35 rfl (j := 0) (by decide) fun b5 l5 => ?_
      simp only [fe_cons, execOp, opd, putT, nth, Nat.reduceAdd]
      refine fev_st (k6.upd (by omega)) ti3 rfl (j := 0) (by decide) fun b6 l6 => ?_
      simp only [fe_nil, core1, fgr, execOp, opd, putT, nth, forgetL, Nat.reduceAdd]
      refine ⟨(by (try simp (disch := omega) only [fine, List.all_cons, List.all_nil, clash_pl, clash_pr, clash_rr, Bool.not_false, Bool.true_or, Bool.and_true, Bool.true_and, clash_rw, clash_ww]); repeat' (first | rfl | exact (Bool.or_eq_true _ _).mpr (.inr rfl) | refine (Bool.and_eq_true _ _).mpr ⟨?_, ?_⟩)), ?_⟩
      have l5 := (arr_one l5).upd (i := i6) (b := some b6) (by omega)
      have l6 := arr_one l6
      have l4 := (k4.upd (i := i5) (b := some b5) (by omega)).upd (i := i6) (b := some b6) (by omega)
      have l3 := (k3.upd (i := i5) (b := some b5) (by omega)).upd (i := i6) (b := some b6) (by omega)
      have idl : (upd (upd G2 i5 (some b5)) i6 (some b6)) id = G2 id := by rw [upd_ne _ _ (by omega), upd_ne _ _ (by omega)]
      have ol : Old h0 (upd (upd G2 i5 (some b5)) i6 (some b6)) N := fun j hj => by rw [upd_ne _ _ (by omega), upd_ne _ _ (by omega)]; exact o2 j hj
      have fl : Free (upd (upd G2 i5 (some b5)) i6 (some b6)) n := (f2.upd (by omega)).upd (by omega)
      generalize upd (upd G2 i5 (some b5)) i6 (some b6) = G3 at *
      have idl := idl.trans id2
      rw [opv_rd (l6.load ti3 rfl (j := 0) (by decide))]
      by_cases c3 : s - m = 3
      · have c4 : ((s - m : Nat) : Int) = 3 := by omega
        simp only [core1, cont_block_any, fgr, execOp, opd, ofValue, putT, put, nth, forgetL, bor, binInt, shiftB, intOp, decide_true, beq_self_eq_true, c4]
        refine ⟨_, idl, ?_⟩
        simp only [core1, Bool.not_false, normB, jumpOf]
        refine hB _ _ (by omega) ⟨_, upd_same _ _ _, rfl, rfl⟩ (l4.upd (by omega)) ((l5.upd (by omega)).ext fun j hj => ?_) ((l6.upd (by omega)).ext fun j hj => ?_) (fun j hj => ?_) (fl.upd (by omega))
        · rw [show s - 3 = m by omega]
        · exact c4
        · rw [upd_ne _ _ (by omega)]; exact ol j hj
      · have c4 : ¬ ((s - m : Nat) : Int) = 3 := by omega
        simp only [core1, fgr, execOp, opd, ofValue, putT, put, nth, forgetL, bor, binInt, shiftB, intOp, int_beq, decide_true, decide_false, c4]
        refine ⟨_, idl, ?_⟩
        simp only [core1, fgr, execOp, opd, ofValue, putT, put, nth, forgetL, bor, binInt, shiftB, intOp, wrapI, decide_true, Bool.not_true, normB, jumpOf, hwm]
        refine ih _ _ _ _ _ _ _ _ _ _ _ _ _ _ _ _ _ _ (by omega) (by omega) (upd_same _ _ _) (l3.upd (by omega)) ((l4.upd (by omega)).ext fun j hj => ?_) (l5.upd (by omega)) (l6.upd (by omega)) (fun j hj => ?_) (fl.upd (by omega))
        · rw [if_neg c1]
        · rw [upd_ne _ _ (by omega)]; exact ol j hj
/- A number's compact form: the program's. -/
theorem loop15 (Q : Post0) (ks : List Kf) (rnd : Option Nat) (p4 : AVal) (i5 i6 n : Nat) (d : i5 ≠ i6) (h0 : Hp) (F : Nat)
    (hq : ∀ (h : Hp) (x0 x1 x2 x3 x7 x8 x10 x12 x13 x14 x20 x23 x32 x34 x40 : AVal), Arr .u32 h i5 1 (fun _ => (F : Nat)) → (∀ j, j ≠ i5 → j ≠ i6 → h j = h0 j) → Kont env 15 rnd Q ks (.exit 2) (x0 :: x1 :: x2 :: x3 :: p4 :: .ptr i5 0 :: .ptr i6 0 :: x7 :: x8 :: AVal.junk :: x10 :: AVal.junk :: x12 :: x13 :: x14 :: AVal.junk :: AVal.junk :: AVal.junk :: AVal.junk :: AVal.junk :: x20 :: AVal.junk :: AVal.junk :: x23 :: AVal.junk :: AVal.junk :: AVal.junk :: AVal.junk :: AVal.junk :: AVal.junk :: AVal.junk :: AVal.junk :: x32 :: AVal.junk :: x34 :: AVal.junk :: AVal.junk :: AVal.junk :: AVal.junk :: AVal.junk :: x40 :: AVal.junk :: AVal.junk :: AVal.junk :: AVal.junk :: AVal.junk :: AVal.junk :: AVal.junk :: AVal.junk :: AVal.junk :: []) h n) :
    ∀ (k t M : Nat) (h : Hp) (x0 x1 x2 x3 x7 x8 x10 x12 x13 x14 x20 x23 x32 x34 x40 : AVal), t + k = 3 → M < 2 ^ (8 * t) → F = M * 2 ^ (8 * k) → Arr .u32 h i5 1 (fun _ => (M : Nat)) → Arr .i64 h i6 1 (fun _ => (t : Nat)) → (∀ j, j ≠ i5 → j ≠ i6 → h j = h0 j) →
    Run env 15 rnd Q (.loop lp15_0) ks (x0 :: x1 :: x2 :: x3 :: p4 :: .ptr i5 0 :: .ptr i6 0 :: x7 :: x8 :: AVal.junk :: x10 :: AVal.junk :: x12 :: x13 :: x14 :: AVal.junk :: AVal.junk :: AVal.junk :: AVal.junk :: AVal.junk :: x20 :: AVal.junk :: AVal.junk :: x23 :: AVal.junk :: AVal.junk :: AVal.junk :: AVal.junk :: AVal.junk :: AVal.junk :: AVal.junk :: AVal.junk :: x32 :: AVal.junk :: x34 :: AVal.junk :: AVal.junk :: AVal.junk :: AVal.junk :: AVal.junk :: x40 :: AVal.junk :: AVal.junk :: AVal.junk :: AVal.junk :: AVal.junk :: AVal.junk :: AVal.junk :: AVal.junk :: AVal.junk :: []) h n := by
  intro k
  induction k with
  | zero =>
    intro t M h x0 x1 x2 x3 x7 x8 x10 x12 x13 x14 x20 x23 x32 x34 x40 ht hM hF h5 h6 hk
    have : t = 3 := by omega
    subst this
    have hc : ¬ ((3 : Nat) : Int) < 3 := by decide
    rw [run_loop]
    simp only [lp15_0, loopsOf, Try.f15, Option.getD_some, core1, execOp, opd, nth, List.nil_append, List.append_nil, List.getD_cons_zero]
    rw [opv_rd (h6.load ti3 rfl (j := 0) (by decide))]
    simp only [core1, fgr, execOp, opd, ofValue, putT, put, nth, forgetL, bor, binInt, shiftB, intOp, Int.cast_ofNat_Int, Int.reduceLT, decide_true, decide_false]
    refine hq h _ _ _ _ _ _ _ _ _ _ _ _ _ _ _ (h5.ext fun j hj => ?_) hk
    rw [hF, Nat.mul_zero, Nat.pow_zero, Nat.mul_one]
  | succ k ih =>
    intro t M h x0 x1 x2 x3 x7 x8 x10 x12 x13 x14 x20 x23 x32 x34 x40 ht hM hF h5 h6 hk
    have hc : ((t : Nat) : Int) < 3 := by omega
    have hw : IntKind.i64.wrap (((t : Nat) : Int) + 1) = ((t + 1 : Nat) : Int) := by rw [w64 (by omega) (by omega)]; omega
    have hM2 : M < 65536 := Nat.lt_of_lt_of_le hM (show _ ≤ 2 ^ 16 from Nat.pow_le_pow_right (by decide) (by omega))
    have sh : IntKind.u32.wrap (((M : Nat) : Int) * 2 ^ (min (Int.toNat 8) IntKind.u32.bits)) = ((M * 256 : Nat) : Int) := by
      have := shl32 M 8 (by decide)
      rw [Nat.mod_eq_of_lt (by omega)] at this
      exact this
    rw [run_loop]
    simp only [lp15_0, loopsOf, Try.f15, Option.getD_some, core1, execOp, opd, nth, List.nil_append, List.append_nil, List.getD_cons_zero]
    rw [opv_rd (h6.load ti3 rfl (j := 0) (by decide))]
    simp only [core1, fgr, execOp, opd, ofValue, putT, put, nth, forgetL, bor, binInt, shiftB, intOp, decide_true, hc]
    rw [opv_rd (h5.load ti35 rfl (j := 0) (by decide))]
    simp only [core1, execOp, opd, ofValue, putT, put, nth, bor, binInt, shiftB, shiftOp, wrapI, Int.reduceLE, decide_true, true_and, sh]
    refine opv_arr h5 ti35 rfl (j := 0) (by decide) fun b5 k5 => ?_
    simp only [core1, fgr, execOp, opd, putT, nth, forgetL]
    rw [opv_rd ((h6.upd (by omega)).load ti3 rfl (j := 0) (by decide))]
    simp only [core1, execOp, opd, ofValue, putT, put, nth, bor, binInt, shiftB, intOp, wrapI, decide_true, hw]
    refine opv_arr (h6.upd (by omega)) ti3 rfl (j := 0) (by decide) fun b6 k6 => ?_
    simp only [core1, fgr, putT, forgetL]
    refine ih (t + 1) (M * 256) _ _ _ _ _ _ _ _ _ _ _ _ _ _ _ _ (by omega) ?_ ?_ ((arr_one k5).upd (by omega)) (arr_one k6) (fun j h1 h2 => by rw [upd_ne _ _ h2, upd_ne _ _ h1]; exact hk j h1 h2)
    · rw [show 8 * (t + 1) = 8 * t + 8 by omega, Nat.pow_add]; omega
    · rw [hF, show 8 * (k + 1) = 8 + 8 * k by omega, Nat.pow_add, Nat.mul_assoc]
end Go.Am.Ytmlagocbphoedaa
