/- The functions that the statement reaches, gone through. -/
import Derived.Test.YtmlagocbphoedaaTgPoE
set_option linter.unusedSimpArgs false
set_option linter.unusedVariables false
set_option linter.defProp false
set_option maxRecDepth 10000
namespace Go.Am.Ytmlagocbphoedaa
open Go Go.Am Go.Proofs
set_option maxHeartbeats 8000000 in
theorem f62 (p : Pa) (h : Hp) (n : Nat) (lL : p.L < 4294967296) (hf : Free h n) : Wp (callI env (evalW env) 62 [.agg p.cells]) h n fun v' h' n' => (∃ r, v' = .int .i64 r ∧ okC p r) ∧ Old h h' n := by
  refine wp_callI ff62 fi62 ?_
  have k1 : ∀ j : Nat, j = n → (upd h n (some (Blk.row (Cont.l p.cells) 60))) j = some (Blk.row (Cont.l p.cells) 60) := fun j hj => by rw [hj]; exact upd_same _ _ _
  have k1 := k1 n rfl
  have oh : Old h (upd h n (some (Blk.row (Cont.l p.cells) 60))) n := fun j hj => upd_ne _ _ (by omega)
  have f1 : Free (upd h n (some (Blk.row (Cont.l p.cells) 60))) (n + 1) := hf.new
  simp only [fu62, Try.f62, Option.getD_some, List.replicate, core1, tyr, fgr, execOp, opd, ofValue, putT, put, nth, forgetL, und, sizeOf, cel, alloc, newRow, getO, ended, resultOf, oneOrTup, moved, fieldAddr, List.getElem?_cons_zero, List.append_eq, List.cons_append, List.nil_append, List.length_cons, List.length_nil, Nat.reduceSub, Nat.zero_add, wp_pure]
  generalize upd h n (some (Blk.row (Cont.l p.cells) 60)) = h0 at *
  rw [opv_rd (ld9 k1 rfl ti35 rfl)]
  simp only [core1, hkr, execOp, opd, opds, putT, put, nth, doCall, callV_func, List.nil_append, List.append_nil]
  refine opv_callf f1 (f21 p.L _ _ lL f1) fun v2 h2 n2 hn2 f2 ⟨e2, o2⟩ => ?_
  subst e2
  rw [expA_eq]
  have k1 := (o2 n (by omega)).trans k1
  simp only [core1, tyr, execOp, opd, putT, put, nth, zeroOf, cel, alloc, doAlloc, newRow, extract, getO, List.getElem?_cons_succ, List.getElem?_cons_zero, W]
  refine opv_all4 (arr_0 (upd_same _ _ _)) ti25 rfl fun b4 k4 => ?_
  have k4 := pick_wd k4
  have s4 : ∀ j, j < n2 → (upd (upd h2 n2 (some (Blk.row (Cont.l [AVal.int IntKind.u64 0, AVal.int IntKind.u64 0, AVal.int IntKind.u64 0, AVal.int IntKind.u64 0]) 25))) n2 (some b4)) j = h2 j := fun j hj => by rw [upd_ne _ _ (by omega), upd_ne _ _ (by omega)]
  have f4 : Free (upd (upd h2 n2 (some (Blk.row (Cont.l [AVal.int IntKind.u64 0, AVal.int IntKind.u64 0, AVal.int IntKind.u64 0, AVal.int IntKind.u64 0]) 25))) n2 (some b4)) (n2 + 1) := f2.new.upd (by omega)
  generalize (upd (upd h2 n2 (some (Blk.row (Cont.l [AVal.int IntKind.u64 0, AVal.int IntKind.u64 0, AVal.int IntKind.u64 0, AVal.int IntKind.u64 0]) 25))) n2 (some b4)) = H4 at *
  have k1 := (s4 n (by omega)).trans k1
  have oh : Old h H4 n := fun j hj => by rw [s4 j (by omega), o2 j (by omega)]; exact oh j hj
  by_cases c0 : expE p.L = 0
  case neg =>
    simp only [core1, fgr, execOp, opd, ofValue, putT, put, nth, forgetL, bor, binInt, shiftB, intOp, doPick, branch, List.getElem?_cons_succ, List.getElem?_cons_zero, int_bne, not_false_eq_true, decide_true, true_and, c0]
    exact ⟨⟨_, rfl, .inr ⟨fun q => c0 q.hL, rfl⟩⟩, oh⟩
  simp only [core1, tyr, fgr, execOp, opd, ofValue, putT, put, nth, forgetL, und, sizeOf, bor, binInt, shiftB, intOp, getO, moved, fieldAddr, List.getElem?_cons_succ, List.getElem?_cons_zero, decide_true, Nat.zero_add, bne_self_eq_false, c0]
  rw [opv_rd (ld9 k1 rfl ti3 rfl)]
  by_cases a1 : p.e < 2
  case pos =>
    simp only [core1, fgr, execOp, opd, ofValue, putT, put, nth, forgetL, bor, binInt, shiftB, intOp, doPick, branch, List.getElem?_cons_succ, List.getElem?_cons_zero, decide_true, true_and, a1]
    exact ⟨⟨_, rfl, .inr ⟨fun q => by have := q.e1.1; omega, rfl⟩⟩, oh⟩
  simp only [core1, tyr, execOp, opd, ofValue, putT, put, nth, und, sizeOf, bor, binInt, shiftB, intOp, doPick, branch, getO, moved, fieldAddr, List.getElem?_cons_succ, List.getElem?_cons_zero, decide_true, decide_false, Nat.zero_add, a1]
  rw [opv_rd (ld9 k1 rfl ti3 rfl)]
  by_cases a2 : 2016 < p.e
  case pos =>
    simp only [core1, fgr, execOp, opd, ofValue, putT, put, nth, forgetL, bor, binInt, shiftB, intOp, doPick, branch, List.getElem?_cons_succ, List.getElem?_cons_zero, gt_iff_lt, decide_true, true_and, a2]
    exact ⟨⟨_, rfl, .inr ⟨fun q => by have := q.e1.2; omega, rfl⟩⟩, oh⟩
  simp only [core1, tyr, execOp, opd, ofValue, putT, put, nth, und, sizeOf, bor, binInt, shiftB, intOp, doPick, branch, getO, moved, fieldAddr, List.getElem?_cons_succ, List.getElem?_cons_zero, gt_iff_lt, decide_true, decide_false, Nat.zero_add, a2]
  rw [opv_rd (ld9 k1 rfl ti2 rfl)]
  by_cases c2 : p.s < 1
  case pos =>
    simp only [core1, fgr, execOp, opd, ofValue, putT, put, nth, forgetL, bor, binInt, shiftB, intOp, doPick, branch, List.getElem?_cons_succ, List.getElem?_cons_zero, decide_true, true_and, c2]
    exact ⟨⟨_, rfl, .inr ⟨fun q => q.s1 c2, rfl⟩⟩, oh⟩
  simp only [core1, tyr, execOp, opd, ofValue, putT, put, nth, und, sizeOf, bor, binInt, shiftB, intOp, doPick, branch, getO, moved, fieldAddr, List.getElem?_cons_succ, List.getElem?_cons_zero, decide_true, decide_false, Nat.zero_add, c2]
  rw [opv_rd (ld9 k1 rfl ti2 rfl)]
  by_cases c3 : 2147483647 < p.s
  case pos =>
    simp only [core1, fgr, execOp, opd, ofValue, putT, put, nth, forgetL, bor, binInt, shiftB, intOp, doPick, branch, List.getElem?_cons_succ, List.getElem?_cons_zero, gt_iff_lt, decide_true, true_and, c3]
    exact ⟨⟨_, rfl, .inr ⟨fun q => q.s2 c3, rfl⟩⟩, oh⟩
  simp only [core1, tyr, execOp, opd, ofValue, putT, put, nth, und, sizeOf, bor, binInt, shiftB, intOp, doPick, branch, getO, moved, fieldAddr, List.getElem?_cons_succ, List.getElem?_cons_zero, gt_iff_lt, decide_true, decide_false, Nat.zero_add, c3]
  rw [opv_rd (ld9 k1 rfl ti3 rfl)]
  by_cases a3 : p.ha < 1
  case pos =>
    simp only [core1, fgr, execOp, opd, ofValue, putT, put, nth, forgetL, bor, binInt, shiftB, intOp, doPick, branch, List.getElem?_cons_succ, List.getElem?_cons_zero, decide_true, true_and, a3]
    exact ⟨⟨_, rfl, .inr ⟨fun q => by have := q.h1.1; omega, rfl⟩⟩, oh⟩
  simp only [core1, tyr, execOp, opd, ofValue, putT, put, nth, und, sizeOf, bor, binInt, shiftB, intOp, doPick, branch, getO, moved, fieldAddr, List.getElem?_cons_succ, List.getElem?_cons_zero, decide_true, decide_false, Nat.zero_add, a3]
  rw [opv_rd (ld9 k1 rfl ti3 rfl)]
  by_cases a4 : 2147483647 < p.ha
  case pos =>
    simp only [core1, fgr, execOp, opd, ofValue, putT, put, nth, forgetL, bor, binInt, shiftB, intOp, doPick, branch, List.getElem?_cons_succ, List.getElem?_cons_zero, gt_iff_lt, decide_true, true_and, a4]
    exact ⟨⟨_, rfl, .inr ⟨fun q => by have := q.h1.2; omega, rfl⟩⟩, oh⟩
  simp only [core1, tyr, execOp, opd, ofValue, putT, put, nth, und, sizeOf, bor, binInt, shiftB, intOp, doPick, branch, getO, moved, fieldAddr, List.getElem?_cons_succ, List.getElem?_cons_zero, gt_iff_lt, decide_true, decide_false, Nat.zero_add, a4]
  rw [opv_rd (ld9 k1 rfl ti3 rfl)]
  by_cases a5 : p.ma < 1
  case pos =>
    simp only [core1, fgr, execOp, opd, ofValue, putT, put, nth, forgetL, bor, binInt, shiftB, intOp, doPick, branch, List.getElem?_cons_succ, List.getElem?_cons_zero, decide_true, true_and, a5]
    exact ⟨⟨_, rfl, .inr ⟨fun q => by have := q.m1.1; omega, rfl⟩⟩, oh⟩
  simp only [core1, tyr, execOp, opd, ofValue, putT, put, nth, und, sizeOf, bor, binInt, shiftB, intOp, doPick, branch, getO, moved, fieldAddr, List.getElem?_cons_succ, List.getElem?_cons_zero, decide_true, decide_false, Nat.zero_add, a5]
  rw [opv_rd (ld9 k1 rfl ti3 rfl)]
  by_cases a6 : 10000 < p.ma
  case pos =>
    simp only [core1, fgr, execOp, opd, ofValue, putT, put, nth, forgetL, bor, binInt, shiftB, intOp, doPick, branch, List.getElem?_cons_succ, List.getElem?_cons_zero, gt_iff_lt, decide_true, true_and, a6]
    exact ⟨⟨_, rfl, .inr ⟨fun q => by have := q.m1.2; omega, rfl⟩⟩, oh⟩
  simp only [core1, tyr, execOp, opd, ofValue, putT, put, nth, und, sizeOf, bor, binInt, shiftB, intOp, doPick, branch, getO, moved, fieldAddr, List.getElem?_cons_succ, List.getElem?_cons_zero, gt_iff_lt, decide_true, decide_false, Nat.zero_add, a6]
  rw [opv_rd (ld9 k1 rfl ti3 rfl)]
  by_cases a7 : p.de < 1
  case pos =>
    simp only [core1, fgr, execOp, opd, ofValue, putT, put, nth, forgetL, bor, binInt, shiftB, intOp, doPick, branch, List.getElem?_cons_succ, List.getElem?_cons_zero, decide_true, true_and, a7]
    exact ⟨⟨_, rfl, .inr ⟨fun q => by have := q.d1.1; omega, rfl⟩⟩, oh⟩
  simp only [core1, tyr, execOp, opd, ofValue, putT, put, nth, und, sizeOf, bor, binInt, shiftB, intOp, doPick, branch, getO, moved, fieldAddr, List.getElem?_cons_succ, List.getElem?_cons_zero, decide_true, decide_false, Nat.zero_add, a7]
  rw [opv_rd (ld9 k1 rfl ti3 rfl)]
  by_cases a8 : 20 < p.de
  case pos =>
    simp only [core1, fgr, execOp, opd, ofValue, putT, put, nth, forgetL, bor, binInt, shiftB, intOp, doPick, branch, List.getElem?_cons_succ, List.getElem?_cons_zero, gt_iff_lt, decide_true, true_and, a8]
    exact ⟨⟨_, rfl, .inr ⟨fun q => by have := q.d1.2; omega, rfl⟩⟩, oh⟩
  simp only [core1, tyr, execOp, opd, ofValue, putT, put, nth, und, sizeOf, bor, binInt, shiftB, intOp, doPick, branch, getO, moved, fieldAddr, List.getElem?_cons_succ, List.getElem?_cons_zero, gt_iff_lt, decide_true, decide_false, Nat.zero_add, a8]
  rw [opv_rd (ld9 k1 rfl ti3 rfl)]
  by_cases a9 : p.ex < 0
  case pos =>
    simp only [core1, fgr, execOp, opd, ofValue, putT, put, nth, forgetL, bor, binInt, shiftB, intOp, doPick, branch, List.getElem?_cons_succ, List.getElem?_cons_zero, decide_true, true_and, a9]
    exact ⟨⟨_, rfl, .inr ⟨fun q => by have := q.x1.1; omega, rfl⟩⟩, oh⟩
  simp only [core1, tyr, execOp, opd, ofValue, putT, put, nth, und, sizeOf, bor, binInt, shiftB, intOp, doPick, branch, getO, moved, fieldAddr, List.getElem?_cons_succ, List.getElem?_cons_zero, decide_true, decide_false, Nat.zero_add, a9]
  rw [opv_rd (ld9 k1 rfl ti3 rfl)]
  by_cases b1 : 50 < p.ex
  case pos =>
    simp only [core1, fgr, execOp, opd, ofValue, putT, put, nth, forgetL, bor, binInt, shiftB, intOp, doPick, branch, List.getElem?_cons_succ, List.getElem?_cons_zero, gt_iff_lt, decide_true, true_and, b1]
    exact ⟨⟨_, rfl, .inr ⟨fun q => by have := q.x1.2; omega, rfl⟩⟩, oh⟩
  simp only [core1, fgr, execOp, opd, ofValue, putT, put, nth, forgetL, bor, binInt, shiftB, intOp, doPick, branch, List.getElem?_cons_succ, List.getElem?_cons_zero, gt_iff_lt, decide_true, decide_false, b1]
  refine run_draw.2 ⟨rfl, ?_⟩
  simp only [fe_cons, fev_pure, core1, tyr, execOp, opd, putT, put, nth, und, sizeOf, getO, moved, fieldAddr, List.getElem?_cons_succ, List.getElem?_cons_zero, Nat.zero_add]
  rw [fev_rd (ld9 k1 rfl ti2 rfl)]
  by_cases c8 : p.su < 0
  case pos =>
    simp only [fe_nil, fe_cons, fe_guard, fego_some, feg_bool, feg_ft, feg_un, fev_ask, fev_pure, core1, fgr, execOp, opd, ofValue, putT, put, nth, forgetL, bor, binInt, shiftB, intOp, doPick, branch, List.getElem?_cons_succ, List.getElem?_cons_zero, Nat.reduceAdd, decide_true, true_and, c8]
    refine ⟨(by (try simp (disch := omega) only [fine, List.all_cons, List.all_nil, clash_pr, clash_rr, Bool.not_false, Bool.true_or, Bool.and_true]); repeat' (first | rfl | exact (Bool.or_eq_true _ _).mpr (.inr rfl) | refine (Bool.and_eq_true _ _).mpr ⟨?_, ?_⟩)), ?_⟩
    exact ⟨⟨_, rfl, .inr ⟨fun q => q.u1 c8, rfl⟩⟩, oh⟩
  simp only [fe_cons, fe_guard, fego_some, feg_bool, feg_ff, fev_pure, core1, tyr, execOp, opd, ofValue, putT, put, nth, und, sizeOf, bor, binInt, shiftB, intOp, getO, moved, fieldAddr, List.getElem?_cons_succ, List.getElem?_cons_zero, Nat.reduceAdd, decide_true, decide_false, Nat.zero_add, c8]
  rw [fev_rd (ld9 k1 rfl ti2 rfl)]
  by_cases c10 : 2100000000000000 < p.su
  case pos =>
    simp only [fe_nil, fe_cons, fe_guard, fego_some, feg_bool, feg_ff, feg_ft, feg_un, fev_ask, fev_pure, core1, fgr, execOp, opd, ofValue, putT, put, nth, forgetL, bor, binInt, shiftB, intOp, doPick, branch, List.getElem?_cons_succ, List.getElem?_cons_zero, Nat.reduceAdd, gt_iff_lt, decide_true, true_and, c10]
    refine ⟨(by (try simp (disch := omega) only [fine, List.all_cons, List.all_nil, clash_pr, clash_rr, Bool.not_false, Bool.true_or, Bool.and_true]); repeat' (first | rfl | exact (Bool.or_eq_true _ _).mpr (.inr rfl) | refine (Bool.and_eq_true _ _).mpr ⟨?_, ?_⟩)), ?_⟩
    refine ⟨⟨_, rfl, .inr ⟨fun q => ?_, rfl⟩⟩, oh⟩
    have := q.u2
    have h2 : p.su * 1 ≤ p.su * p.ha := Int.mul_le_mul_of_nonneg_left q.h1.1 (by omega)
    omega
  simp only [fe_cons, fe_guard, fego_some, feg_bool, feg_ff, fev_ask, fev_pure, core1, tyr, execOp, opd, ofValue, putT, put, nth, und, sizeOf, bor, binInt, shiftB, intOp, doPick, branch, getO, moved, fieldAddr, List.getElem?_cons_succ, List.getElem?_cons_zero, Nat.reduceAdd, gt_iff_lt, decide_true, decide_false, Nat.zero_add, c10]
  rw [fev_rd (ld9 k1 rfl ti2 rfl)]
  by_cases c11 : 0 < p.su
  case neg =>
    simp only [fe_nil, fe_cons, fe_guard, fego_some, feg_bool, feg_ff, feg_tf, fev_ask, fev_pure, core1, fgr, execOp, opd, ofValue, putT, put, nth, forgetL, bor, binInt, shiftB, intOp, doPick, branch, List.getElem?_cons_succ, List.getElem?_cons_zero, Nat.reduceAdd, gt_iff_lt, decide_true, decide_false, true_and, c11]
    refine ⟨(by (try simp (disch := omega) only [fine, List.all_cons, List.all_nil, clash_pr, clash_rr, Bool.not_false, Bool.true_or, Bool.and_true]); repeat' (first | rfl | exact (Bool.or_eq_true _ _).mpr (.inr rfl) | refine (Bool.and_eq_true _ _).mpr ⟨?_, ?_⟩)), ?_⟩
    have : p.su = 0 := by omega
    exact ⟨⟨_, rfl, .inl ⟨⟨c0, by omega, c2, c3, by omega, by omega, by omega, by omega, c8, by rw [this, Int.zero_mul]; decide⟩, rfl⟩⟩, oh⟩
  have su0 : ¬ p.su = 0 := by omega
  have q0 : 0 ≤ Int.tdiv 1050000000000000 p.su := Int.tdiv_nonneg (by decide) (by omega)
  have q1 : Int.tdiv 1050000000000000 p.su ≤ 1050000000000000 := by
    rw [Int.tdiv_eq_ediv_of_nonneg (by decide)]
    exact Int.ediv_le_self _ (by decide)
  have qw : IntKind.i64.wrap (Int.tdiv 1050000000000000 p.su) = Int.tdiv 1050000000000000 p.su := w64 (by omega) (by omega)
  have qg := div_gt (M := 1050000000000000) (a := p.ha) (b := p.su) (by decide) (by omega)
  simp only [fe_guard, fego_some, feg_bool, feg_tt, feg_ff, fev_pure, core1, tyr, execOp, opd, ofValue, putT, put, nth, und, sizeOf, bor, binInt, shiftB, intOp, getO, moved, fieldAddr, List.getElem?_cons_succ, List.getElem?_cons_zero, Nat.reduceAdd, gt_iff_lt, decide_true, Nat.zero_add, c11]
  rw [fev_rd (ld9 k1 rfl ti3 rfl)]
  simp only [fe_guard, fego_some, feg_bool, feg_tt, fev_pure, core1, tyr, execOp, opd, putT, put, nth, und, sizeOf, getO, moved, fieldAddr, List.getElem?_cons_succ, List.getElem?_cons_zero, Nat.reduceAdd, Nat.zero_add]
  rw [fev_rd (ld9 k1 rfl ti2 rfl)]
  by_cases c9 : p.su * p.ha ≤ 1050000000000000
  · have c9' : ¬ Int.tdiv 1050000000000000 p.su < p.ha := by rw [qg, Int.mul_comm]; omega
    simp only [fe_nil, fe_cons, fe_guard, fego_some, feg_bool, feg_tt, feg_ff, fev_ask, fev_ob, fev_pure, core1, fgr, execOp, opd, ofValue, putT, put, nth, forgetL, bor, binInt, shiftB, intOp, wrapI, doPick, branch, List.getElem?_cons_succ, List.getElem?_cons_zero, Nat.reduceAdd, gt_iff_lt, decide_not, decide_true, decide_false, Bool.not_false, true_and, su0, qw, c9']
    refine ⟨(by (try simp (disch := omega) only [fine, List.all_cons, List.all_nil, clash_pr, clash_rr, Bool.not_false, Bool.true_or, Bool.and_true]); repeat' (first | rfl | exact (Bool.or_eq_true _ _).mpr (.inr rfl) | refine (Bool.and_eq_true _ _).mpr ⟨?_, ?_⟩)), ?_⟩
    exact ⟨⟨_, rfl, .inl ⟨⟨c0, by omega, c2, c3, by omega, by omega, by omega, by omega, c8, c9⟩, rfl⟩⟩, oh⟩
  · have c9' : Int.tdiv 1050000000000000 p.su < p.ha := by rw [qg, Int.mul_comm]; omega
    simp only [fe_nil, fe_cons, fe_guard, fego_some, feg_bool, feg_tt, feg_ff, fev_ask, fev_ob, fev_pure, core1, fgr, execOp, opd, ofValue, putT, put, nth, forgetL, bor, binInt, shiftB, intOp, wrapI, doPick, branch, List.getElem?_cons_succ, List.getElem?_cons_zero, Nat.reduceAdd, gt_iff_lt, decide_not, decide_true, decide_false, Bool.not_false, true_and, su0, qw, c9']
    refine ⟨(by (try simp (disch := omega) only [fine, List.all_cons, List.all_nil, clash_pr, clash_rr, Bool.not_false, Bool.true_or, Bool.and_true]); repeat' (first | rfl | exact (Bool.or_eq_true _ _).mpr (.inr rfl) | refine (Bool.and_eq_true _ _).mpr ⟨?_, ?_⟩)), ?_⟩
    exact ⟨⟨_, rfl, .inr ⟨fun q => c9 q.u2, rfl⟩⟩, oh⟩
/- A target scaled by how long it took: the program's. -/
set_option maxHeartbeats 8000000 in
theorem f60 (p : Pa) (old lim k : Nat) (took : Int) (h : Hp) (n : Nat) (lL : p.L < 4294967296) (hl : expV p.L = some lim) (hs : 1 ≤ p.s ∧ p.s ≤ 2147483647) (lo : old < b256) (o0 : old ≠ 0) (ht : -4294967296 ≤ took ∧ took ≤ 4294967296) (hk : (k : Int) = min (max (max took (p.s / 4)) 1) (4 * p.s)) (hf : Free h n) : Wp (callI env (evalW env) 60 [.agg p.cells, W old, .int .i64 took]) h n fun v' h' n' => v' = compA (scS old k p.s.toNat lim) ∧ Old h h' n := by
  refine wp_callI ff60 fi60 ?_
  have k3 : ∀ j : Nat, j = n → (upd (upd h n (some (Blk.row (Cont.l p.cells) 60))) (n + 1) (some (Blk.row (Cont.l [AVal.int IntKind.u64 (wd old 0 : Nat), AVal.int IntKind.u64 (wd old 1 : Nat), AVal.int IntKind.u64 (wd old 2 : Nat), AVal.int IntKind.u64 (wd old 3 : Nat)]) 25))) j = some (Blk.row (Cont.l p.cells) 60) := fun j hj => by rw [hj, upd_ne _ _ (by omega)]; exact upd_same _ _ _
  have k3 := k3 n rfl
  have k4 : Arr .u64 (upd (upd h n (some (Blk.row (Cont.l p.cells) 60))) (n + 1) (some (Blk.row (Cont.l [AVal.int IntKind.u64 (wd old 0 : Nat), AVal.int IntKind.u64 (wd old 1 : Nat), AVal.int IntKind.u64 (wd old 2 : Nat), AVal.int IntKind.u64 (wd old 3 : Nat)]) 25))) (n + 1) 4 (fun j => (wd old j : Nat)) := arr_W (upd_same _ _ _)
  have oh : Old h (upd (upd h n (some (Blk.row (Cont.l p.cells) 60))) (n + 1) (some (Blk.row (Cont.l [AVal.int IntKind.u64 (wd old 0 : Nat), AVal.int IntKind.u64 (wd old 1 : Nat), AVal.int IntKind.u64 (wd old 2 : Nat), AVal.int IntKind.u64 (wd old 3 : Nat)]) 25))) n := fun j hj => by rw [upd_ne _ _ (by omega), upd_ne _ _ (by omega)]
  have f0 : Free (upd (upd h n (some (Blk.row (Cont.l p.cells) 60))) (n + 1) (some (Blk.row (Cont.l [AVal.int IntKind.u64 (wd old 0 : Nat), AVal.int IntKind.u64 (wd old 1 : Nat), AVal.int IntKind.u64 (wd old 2 : Nat), AVal.int IntKind.u64 (wd old 3 : Nat)]) 25))) (n + 1 + 1) := hf.new.new
  simp only [fu60, Try.f60, Option.getD_some, List.replicate, core1, tyr, fgr, execOp, opd, ofValue, putT, put, nth, forgetL, und, sizeOf, cel, alloc, newRow, getO, ended, resultOf, oneOrTup, moved, fieldAddr, List.getElem?_cons_succ, List.getElem?_cons_zero, List.cons_append, List.nil_append, List.length_cons, List.length_nil, Nat.reduceAdd, Nat.reduceSub, Nat.zero_add, wp_pure, W]
  generalize upd (upd h n (some (Blk.row (Cont.l p.cells) 60))) (n + 1) (some (Blk.row (Cont.l [AVal.int IntKind.u64 (wd old 0 : Nat), AVal.int IntKind.u64 (wd old 1 : Nat), AVal.int IntKind.u64 (wd old 2 : Nat), AVal.int IntKind.u64 (wd old 3 : Nat)]) 25)) = h0 at *
  have q4 : IntKind.i64.wrap (Int.tdiv p.s 4) = p.s / 4 := by rw [Int.tdiv_eq_ediv_of_nonneg (by omega), w64 (by omega) (by omega)]
  have m4 : IntKind.i64.wrap (4 * p.s) = 4 * p.s := w64 (by omega) (by omega)
  rw [opv_rd (ld9 k3 rfl ti2 rfl)]
  simp only [core1, tyr, execOp, opd, opds, ofValue, putT, put, nth, doCall, builtin, some1, foldM2, max2, und, sizeOf, bor, binInt, shiftB, intOp, wrapI, intK, getO, moved, fieldAddr, List.getElem?_cons_succ, List.getElem?_cons_zero, Int.reduceNe, decide_true, true_and, Nat.zero_add, q4]
  rw [opv_rd (ld9 k3 rfl ti2 rfl)]
  have hk' : (if 4 * p.s < if (if took < p.s / 4 then p.s / 4 else took) < 1 then 1 else if took < p.s / 4 then p.s / 4 else took then 4 * p.s else if (if took < p.s / 4 then p.s / 4 else took) < 1 then 1 else if took < p.s / 4 then p.s / 4 else took) = (k : Int) := by
    rw [hk]
    (repeat' split) <;> omega
  have ck : IntKind.u64.wrap ((k : Nat) : Int) = ((k : Nat) : Int) := wu64 (by omega) (by omega)
  obtain ⟨S, eS⟩ : ∃ S : Nat, p.s = (S : Nat) := ⟨p.s.toNat, by omega⟩
  have cS : IntKind.u64.wrap p.s = ((S : Nat) : Int) := by rw [eS]; exact wu64 (by omega) (by omega)
  have hSn : p.s.toNat = S := by omega
  obtain ⟨ll, l0, _, _⟩ := expV_some hl
  have okk : okB k = true := by unfold okB; rw [decide_eq_true (by omega), decide_eq_true (by omega)]; rfl
  have okS : okB S = true := by unfold okB; rw [decide_eq_true (by omega), decide_eq_true (by omega)]; rfl
  have ns : ¬ noSc old k S lim := fun q => q.elim o0 fun q => q.elim l0 fun q => q.elim (fun q => by rw [okk] at q; cases q) (fun q => by rw [okS] at q; cases q)
  obtain ⟨sq, se⟩ := sc_some ns
  have lx : scS old k S lim < b256 := Nat.lt_of_le_of_lt (scS_facts o0 l0 (by omega)).1 ll
  simp only [core1, tyr, fgr, execOp, opd, opds, ofValue, putT, put, nth, forgetL, doCall, builtin, some1, foldM2, min2, und, sizeOf, bor, binInt, shiftB, intOp, wrapI, intK, getO, moved, fieldAddr, List.getElem?_cons_zero, decide_true, Nat.zero_add, m4, hk']
  rw [opv_rd (ld9 k3 rfl ti35 rfl)]
  simp only [core1, hkr, execOp, opd, opds, putT, put, nth, doCall, callV_func, List.nil_append, List.append_nil]
  refine opv_callf f0 (f16 p.L _ _ lL f0) fun v2 h2 n2 hn2 f2 ⟨e2, o2⟩ => ?_
  subst e2
  simp only [expA, hl]
  have k3 := (o2 n (by omega)).trans k3
  have k4 := k4.keep (o2 _ (by omega))
  simp only [core1, tyr, execOp, opd, putT, put, nth, zeroOf, cel, alloc, doAlloc, newRow, extract, getO, List.getElem?_cons_succ, List.getElem?_cons_zero, W]
  refine opv_all4 (arr_0 (upd_same _ _ _)) ti25 rfl fun b8 k8 => ?_
  have k8 := pick_wd k8
  have s8 : ∀ j, j < n2 → (upd (upd h2 n2 (some (Blk.row (Cont.l [AVal.int IntKind.u64 0, AVal.int IntKind.u64 0, AVal.int IntKind.u64 0, AVal.int IntKind.u64 0]) 25))) n2 (some b8)) j = h2 j := fun j hj => by rw [upd_ne _ _ (by omega), upd_ne _ _ (by omega)]
  have f8 : Free (upd (upd h2 n2 (some (Blk.row (Cont.l [AVal.int IntKind.u64 0, AVal.int IntKind.u64 0, AVal.int IntKind.u64 0, AVal.int IntKind.u64 0]) 25))) n2 (some b8)) (n2 + 1) := f2.new.upd (by omega)
  generalize (upd (upd h2 n2 (some (Blk.row (Cont.l [AVal.int IntKind.u64 0, AVal.int IntKind.u64 0, AVal.int IntKind.u64 0, AVal.int IntKind.u64 0]) 25))) n2 (some b8)) = H8 at *
  have k3 := (s8 n (by omega)).trans k3
  have k4 := k4.keep (s8 _ (by omega))
  have oh : Old h H8 n := fun j hj => by rw [s8 j (by omega), o2 j (by omega)]; exact oh j hj
  simp only [core1, fgr, execOp, opd, putT, put, nth, forgetL]
  rw [opv_rd (k4.all ti25 rfl rfl), range4]
  simp only [core1, tyr, execOp, opd, putT, put, nth, und, sizeOf, lenOf, wrapI, strK, intK, getO, moved, fieldAddr, List.getElem?_cons_succ, List.getElem?_cons_zero, Nat.zero_add, convert, convStr, isU8, ck]
  rw [opv_rd (ld9 k3 rfl ti2 rfl)]
  simp only [core1, tyr, execOp, opd, putT, put, nth, und, lenOf, wrapI, strK, intK, convert, convStr, isU8, cS]
  rw [opv_rd (k8.all ti25 rfl rfl), range4]
  simp only [core1, hkr, execOp, opd, opds, putT, put, nth, doCall, callV_func, List.nil_append, List.append_nil]
  refine opv_callf f8 (f10 old k S lim _ _ lo ll (by omega) (by omega) f8) fun v9 h9 n9 hn9 f9 ⟨e9, o9⟩ => ?_
  subst e9
  rw [scaleA_eq, sq, se]
  simp only [core1, tyr, execOp, opd, putT, put, nth, zeroOf, cel, alloc, doAlloc, newRow, extract, getO, List.getElem?_cons_succ, List.getElem?_cons_zero, W]
  refine opv_all4 (arr_0 (upd_same _ _ _)) ti25 rfl fun bA kA => ?_
  have kA := pick_wd kA
  have sA : ∀ j, j < n9 → (upd (upd h9 n9 (some (Blk.row (Cont.l [AVal.int IntKind.u64 0, AVal.int IntKind.u64 0, AVal.int IntKind.u64 0, AVal.int IntKind.u64 0]) 25))) n9 (some bA)) j = h9 j := fun j hj => by rw [upd_ne _ _ (by omega), upd_ne _ _ (by omega)]
  have fA : Free (upd (upd h9 n9 (some (Blk.row (Cont.l [AVal.int IntKind.u64 0, AVal.int IntKind.u64 0, AVal.int IntKind.u64 0, AVal.int IntKind.u64 0]) 25))) n9 (some bA)) (n9 + 1) := f9.new.upd (by omega)
  generalize (upd (upd h9 n9 (some (Blk.row (Cont.l [AVal.int IntKind.u64 0, AVal.int IntKind.u64 0, AVal.int IntKind.u64 0, AVal.int IntKind.u64 0]) 25))) n9 (some bA)) = HA at *
  have oh : Old h HA n := fun j hj => by rw [sA j (by omega), o9 j (by omega)]; exact oh j hj
  simp only [core1, fgr, execOp, opd, ofValue, putT, put, nth, forgetL, bor, binInt, shiftB, intOp, decide_true, bne_self_eq_false]
  rw [opv_rd (kA.all ti25 rfl rfl), range4]
  simp only [core1, hkr, execOp, opd, opds, putT, put, nth, doCall, callV_func, List.nil_append, List.append_nil]
  refine opv_callf fA (f15 (scS old k S lim) _ _ lx fA) fun v5 h5 n5 hn5 f5 ⟨e5, o5⟩ => ?_
  subst e5
  simp only [compA_eq, hSn]
  simp only [core1, fgr, execOp, opd, putT, put, nth, forgetL, extract, getO, List.getElem?_cons_succ, List.getElem?_cons_zero, true_and]
  exact fun j hj => by rw [o5 j (by omega)]; exact oh j hj
/-- Headers: their cells, times and bits. -/
structure Hds (cs : List AVal) (E : Nat) (T B : Nat → Nat) : Prop where
  len : cs.length = E * 68
  one : cs.all oneCell = true
  t : ∀ k, k < E → cs[k * 68 + 65]? = some (.int .u32 (T k : Nat))
  b : ∀ k, k < E → cs[k * 68 + 66]? = some (.int .u32 (B k : Nat))
  tl : ∀ k, T k < 4294967296
  bl : ∀ k, B k < 4294967296
def hdOf (cs : List AVal) (k : Nat) : List AVal := (cs.drop (k * 68)).take 68
theorem Hds.hd_len {cs : List AVal} {E : Nat} {T B : Nat → Nat} (hc : Hds cs E T B) {k : Nat} (hk : k < E) : (hdOf cs k).length = 68 := by
  unfold hdOf
  rw [List.length_take, List.length_drop, hc.len]; omega
theorem hd_get {cs : List AVal} {k j : Nat} (hj : j < 68) : (hdOf cs k)[j]? = cs[k * 68 + j]? := by
  unfold hdOf
  rw [List.getElem?_take, if_pos hj, List.getElem?_drop]
theorem Hds.hd_one {cs : List AVal} {E : Nat} {T B : Nat → Nat} (hc : Hds cs E T B) (k : Nat) : (hdOf cs k).all oneCell = true := by
  have := hc.one
  rw [List.all_eq_true] at this ⊢
  exact fun x hx => this x (List.mem_of_mem_drop (List.mem_of_mem_take hx))
theorem u62 : und env 62 = M.pure (.slice 64) := rfl
theorem s64 : sizeOf env 64 = M.pure 68 := rfl
theorem ti64x : ti env 64 = M.pure ty64.i := rfl
noncomputable def hz : List AVal := ty64.i.zero.cells
theorem hz_len : hz.length = 68 := by kernel_rfl
theorem hz_one : hz.all oneCell = true := by kernel_rfl
set_option maxHeartbeats 8000000 in
theorem f61 (k E id bl bf : Nat) (cap : Option Nat) (cs : List AVal) (T B : Nat → Nat) (h : Hp) (n : Nat) (hk : k < E) (hE : E ≤ 2016) (hc : Hds cs E T B) (hr : Row h id cs) (hb : Row h bl [.sl id 0 E cap 68]) (hid : id < n) (hbl : bl < n) (hf : Free h n) :
    Wp (callI env (evalW env) 61 [.int .i64 (k : Nat), .ptr bl 0, .ptr bf 0]) h n fun v' h' n' => v' = .agg (hdOf cs k) ∧ Old h h' n := by
  refine wp_callI ff61 fi61 ?_
  have c0 : ¬ ((k : Nat) : Int) < 0 := by omega
  have c1 : ¬ ((E : Nat) : Int) ≤ ((k : Nat) : Int) := by omega
  have kk : k * 68 + 68 ≤ cs.length := by rw [hc.len]; omega
  have o0 : Old h (upd h n (some (.row (.l hz) 64))) n := fun j hj => upd_ne _ _ (by omega)
  have hr := hr.upd (i := n) (b := some (.row (.l hz) 64)) (by omega)
  have hb := hb.upd (i := n) (b := some (.row (.l hz) 64)) (by omega)
  have hn : upd h n (some (.row (.l hz) 64)) n = some (.row (.l hz) 64) := upd_same _ _ _
  simp only [fu61, Try.f61, Option.getD_some, List.replicate, core1, execOp, ended, resultOf, oneOrTup, List.cons_append, List.nil_append, List.length_cons, List.length_nil, Nat.reduceAdd, Nat.reduceSub, Nat.zero_add]
  rw [opv_alloc ti64x rfl]
  simp only [core1, fgr, execOp, opd, ofValue, putT, put, nth, forgetL, bor, binInt, shiftB, intOp, List.getElem?_cons_succ, List.getElem?_cons_zero, decide_true, decide_false, c0]
  show OpV _ _ _ _ _ _ _ _ _ _ (upd h n (some (.row (.l hz) 64))) (n + 1)
  generalize upd h n (some (.row (.l hz) 64)) = h0 at *
  rw [opv_rd (hb.one rfl ti62 rfl)]
  simp only [core1, fgr, execOp, opd, opds, ofValue, putT, put, nth, forgetL, doCall, builtin, one1, blr, bor, binInt, shiftB, intOp, doPick, branch, List.getElem?_cons_succ, List.getElem?_cons_zero, ge_iff_le, decide_true, decide_false, c1]
  rw [opv_rd (hb.one rfl ti62 rfl)]
  simp only [core1, execOp, opd, putT, put, nth]
  rw [opv_rd (sl_idx (j := k) (u62) (s64) rfl hk)]
  simp only [core1, execOp, opd, putT, put, nth, Nat.zero_add]
  rw [opv_rd (hr.agg (off := k * 68) ti64x rfl (by show _ + 68 ≤ _; omega))]
  simp only [core1, execOp, opd, putT, put, nth]
  have hw := Row.write (E := env) (v := .agg (hdOf cs k)) (n := n + 1) (off := 0) hn ti64x (hc.hd_len hk) (by show 0 + 68 ≤ hz.length; rw [hz_len]; decide) (hc.hd_one k)
  rw [show splice hz 0 (AVal.agg (hdOf cs k)).cells = hdOf cs k from splice_all ((hc.hd_len hk).trans hz_len.symm)] at hw
  rw [show (List.take ty64.i.size (List.drop (k * 68) cs)) = hdOf cs k from rfl]
  rw [opv_wr hw]
  simp only [core1, fgr, putT, nth, forgetL, true_and]
  rw [wp_rd ((Row.new _ _ _ _).whole ti64x rfl (hc.hd_len hk))]
  simp only [true_and, wp_pure]
  exact fun j hj => by rw [upd_ne _ _ (by omega)]; exact o0 j hj
/- The bits asked for: the program's. -/
def kOf (p : Pa) (took : Int) : Nat := (min (max (max took (p.s / 4)) 1) (4 * p.s)).toNat
def tookOf (p : Pa) (E : Nat) (T : Nat → Nat) : Int := (T (E - 1) : Int) - (T (E - p.e.toNat) : Int)
def bitsS (p : Pa) (old lim E : Nat) (T B : Nat → Nat) : AVal := if E % p.e.toNat = 0 then compA (scS old (kOf p (tookOf p E T)) p.s.toNat lim) else .tup [.int .u32 (B (E - 1) : Nat), .int .i64 0]
theorem expA_some {c x : Nat} (h : expV c = some x) : expA c = .tup [W x, .int .i64 0] := by
  unfold expA
  rw [h]
theorem hd_one_rd {h : Hp} {n id k E j : Nat} {cs : List AVal} {x : AVal} {t : TypeId} {i : TI} (hr : Row h id (hdOf cs k)) (hx : cs[k * 68 + j]? = some x) (hj : j < 68) (hi : ti env t = M.pure i) (ha : aggB i.desc = false) : Rd (load env t (.ptr id j)) h n [id] x :=
  hr.one (by rw [hd_get hj]; exact hx) hi ha
set_option maxHeartbeats 8000000 in
theorem f31 (p : Pa) (hp : p.ok) (old lim E id bl bf : Nat) (cap : Option Nat) (cs : List AVal) (T B : Nat → Nat) (h : Hp) (n : Nat) (lL : p.L < 4294967296) (hl : expV p.L = some lim) (hE : E ≤ 2016) (hE1 : 1 ≤ E) (hc : Hds cs E T B) (ho : expV (B (E - 1)) = some old)
    (hr : Row h id cs) (hb : Row h bl [.sl id 0 E cap 68]) (hid : id < n) (hbl : bl < n) (hbf : bf < n) (hf : Free h n) :
    Wp (callI env (evalW env) 31 [.agg p.cells, .int .i64 (E : Nat), .fn (.func 61) [] [.ptr bl 0, .ptr bf 0]]) h n fun v' h' n' => v' = bitsS p old lim E T B ∧ Old h h' n := by
  refine wp_callI ff31 fi31 ?_
  have k3 : ∀ j : Nat, j = n → (upd h n (some (Blk.row (Cont.l p.cells) 60))) j = some (Blk.row (Cont.l p.cells) 60) := fun j hj => by rw [hj]; exact upd_same _ _ _
  have k3 := k3 n rfl
  have oh : Old h (upd h n (some (Blk.row (Cont.l p.cells) 60))) n := fun j hj => upd_ne _ _ (by omega)
  have f0 : Free (upd h n (some (Blk.row (Cont.l p.cells) 60))) (n + 1) := hf.new
  have hr := hr.upd (i := n) (b := some (Blk.row (Cont.l p.cells) 60)) (by omega)
  have hb := hb.upd (i := n) (b := some (Blk.row (Cont.l p.cells) 60)) (by omega)
  simp only [fu31, Try.f31, Option.getD_some, List.replicate, core1, tyr, fgr, execOp, opd, ofValue, putT, put, nth, forgetL, cel, alloc, newRow, ended, resultOf, oneOrTup, List.cons_append, List.nil_append, List.length_cons, List.length_nil, Nat.reduceAdd, Nat.reduceSub, Nat.zero_add, wp_pure]
  generalize upd h n (some (Blk.row (Cont.l p.cells) 60)) = h0 at *
  rw [opv_rd (Row.whole ⟨_, k3⟩ ti60 rfl rfl)]
  simp only [core1, hkr, execOp, opd, opds, putT, put, nth, doCall, callV_func, List.nil_append, List.append_nil]
  refine opv_callf f0 (f30 p _ _ lL f0) fun v2 h2 n2 hn2 f2 ⟨⟨r2, e2, q2⟩, o2⟩ => ?_
  have k3 := (o2 n (by omega)).trans k3
  have hr := hr.keep (o2 _ (by omega))
  have hb := hb.keep (o2 _ (by omega))
  have oh : Old h h2 n := fun j hj => (o2 j (by omega)).trans (oh j hj)
  obtain rfl : r2 = 0 := q2.elim (·.2) (fun q => absurd hp q.1)
  subst e2
  have cE : ¬ ((E : Nat) : Int) < 1 := by omega
  simp only [core1, tyr, fgr, hkr, execOp, opd, opds, ofValue, putT, put, nth, forgetL, doCall, callV_func, und, bor, binInt, binOther, shiftB, intOp, wrapI, strK, aggK, doPick, branch, equalTop, equal, nilFn, nilPtr, boolOf, List.getElem?_cons_succ, List.getElem?_cons_zero, List.cons_append, List.nil_append, decide_true, decide_false, Bool.and_true, Bool.or_true, bne_self_eq_false, cE]
  have w1 : IntKind.i64.wrap (((E : Nat) : Int) - 1) = ((E - 1 : Nat) : Int) := by rw [w64 (by omega) (by omega)]; omega
  simp only [w1]
  refine opv_callf f2 (f61 (E - 1) E id bl bf cap cs T B h2 n2 (by omega) hE hc hr hb (by omega) (by omega) f2) fun v4 h4 n4 hn4 f4 ⟨e4, o4⟩ => ?_
  subst e4
  have k3 := (o4 n (by omega)).trans k3
  have hr := hr.keep (o4 _ (by omega))
  have hb := hb.keep (o4 _ (by omega))
  have oh : Old h h4 n := fun j hj => (o4 j (by omega)).trans (oh j hj)
  simp only [core1, execOp, putT, put]
  rw [opv_alloc ti64x rfl]
  simp only [core1, execOp, opd, putT, put, nth]
  refine opv_hold ti64x hz_len (hc.hd_len (by omega)) (hc.hd_one _) f4 fun h5 r5 o5 f5 => ?_
  have k3 := (o5 n (by omega)).trans k3
  have hr := hr.keep (o5 _ (by omega))
  have hb := hb.keep (o5 _ (by omega))
  have oh : Old h h5 n := fun j hj => (o5 j (by omega)).trans (oh j hj)
  have r5b := hd_one_rd (n := n4 + 1) (h := h5) (id := n4) (k := E - 1) (E := E) (j := 66) r5 (hc.b (E - 1) (by omega)) (by decide) ti35 rfl
  simp only [core1, tyr, fgr, execOp, opd, putT, put, nth, forgetL, und, sizeOf, getO, moved, fieldAddr, List.getElem?_cons_succ, List.getElem?_cons_zero, Nat.zero_add]
  rw [opv_rd r5b]
  simp only [core1, hkr, execOp, opd, opds, putT, put, nth, doCall, callV_func, List.nil_append, List.append_nil]
  refine opv_callf f5 (f16 (B (E - 1)) _ _ (hc.bl _) f5) fun v6 h6 n6 hn6 f6 ⟨e6, o6⟩ => ?_
  subst e6
  rw [expA_some ho]
  have k3 := (o6 n (by omega)).trans k3
  have hr := hr.keep (o6 _ (by omega))
  have hb := hb.keep (o6 _ (by omega))
  have r5 := r5.keep (o6 _ (by omega))
  have oh : Old h h6 n := fun j hj => (o6 j (by omega)).trans (oh j hj)
  simp only [core1, tyr, execOp, opd, putT, put, nth, zeroOf, cel, alloc, doAlloc, newRow, extract, getO, List.getElem?_cons_succ, List.getElem?_cons_zero, W]
  refine opv_all4 (arr_0 (upd_same _ _ _)) ti25 rfl fun b7 k7 => ?_
  have k7 := pick_wd k7
  have s7 : ∀ j, j < n6 → (upd (upd h6 n6 (some (Blk.row (Cont.l [AVal.int IntKind.u64 0, AVal.int IntKind.u64 0, AVal.int IntKind.u64 0, AVal.int IntKind.u64 0]) 25))) n6 (some b7)) j = h6 j := fun j hj => by rw [upd_ne _ _ (by omega), upd_ne _ _ (by omega)]
  have f7 : Free (upd (upd h6 n6 (some (Blk.row (Cont.l [AVal.int IntKind.u64 0, AVal.int IntKind.u64 0, AVal.int IntKind.u64 0, AVal.int IntKind.u64 0]) 25))) n6 (some b7)) (n6 + 1) := f6.new.upd (by omega)
  generalize (upd (upd h6 n6 (some (Blk.row (Cont.l [AVal.int IntKind.u64 0, AVal.int IntKind.u64 0, AVal.int IntKind.u64 0, AVal.int IntKind.u64 0]) 25))) n6 (some b7)) = H7 at *
  have k3 := (s7 n (by omega)).trans k3
  have hr := hr.keep (s7 _ (by omega))
  have hb := hb.keep (s7 _ (by omega))
  have r5 := r5.keep (s7 _ (by omega))
  have oh : Old h H7 n := fun j hj => (s7 j (by omega)).trans (oh j hj)
  simp only [core1, tyr, fgr, execOp, opd, ofValue, putT, put, nth, forgetL, und, sizeOf, bor, binInt, shiftB, intOp, getO, moved, fieldAddr, List.getElem?_cons_succ, List.getElem?_cons_zero, decide_true, Nat.zero_add, bne_self_eq_false]
  rw [opv_rd (ld9 k3 rfl ti3 rfl)]
  simp only [core1, fgr, execOp, opd, ofValue, putT, put, nth, forgetL, bor, binInt, shiftB, intOp, int_bne, decide_not, decide_true]
  obtain ⟨e, he⟩ : ∃ e : Nat, p.e = (e : Nat) := ⟨p.e.toNat, by have := hp.e1.1; omega⟩
  have e0 : 2 ≤ e := by have := hp.e1.1; omega
  have een : p.e.toNat = e := by omega
  have he0 : ¬ p.e = 0 := by omega
  have hm : Int.tmod ((E : Nat) : Int) p.e = ((E % e : Nat) : Int) := by rw [he]; exact Int.ofNat_tmod _ _
  refine ⟨by rw [decide_eq_false he0]; rfl, ?_⟩
  rw [hm]
  by_cases c : E % e = 0
  case neg =>
    have c' : ¬ ((E % e : Nat) : Int) = 0 := by omega
    simp only [core1, tyr, execOp, opd, putT, put, nth, und, sizeOf, getO, moved, fieldAddr, List.getElem?_cons_succ, List.getElem?_cons_zero, decide_false, Bool.not_false, Nat.zero_add, c']
    have r5b := hd_one_rd (n := n6 + 1) (h := H7) (id := n4) (k := E - 1) (E := E) (j := 66) r5 (hc.b (E - 1) (by omega)) (by decide) ti35 rfl
    rw [opv_rd r5b]
    simp only [core1, fgr, execOp, opd, ofValue, putT, put, nth, forgetL, true_and]
    refine ⟨?_, oh⟩
    unfold bitsS
    rw [een, if_neg c]
  have c' : ((E % e : Nat) : Int) = 0 := by omega
  simp only [core1, decide_true, Bool.not_true, c']
  refine run_draw.2 ⟨rfl, ?_⟩
  simp only [fe_cons, execOp, opd, nth]
  rw [fev_rd (Row.whole ⟨_, k3⟩ ti60 rfl rfl)]
  simp only [fe_cons, execOp, opd, putT, put, nth, Nat.zero_add]
  rw [fev_rd (k7.all ti25 rfl rfl), range4]
  simp only [fe_cons, fev_pure, core1, tyr, execOp, opd, putT, put, nth, und, sizeOf, getO, moved, fieldAddr, List.getElem?_cons_succ, List.getElem?_cons_zero, Nat.reduceAdd, Nat.zero_add]
  have r5t := hd_one_rd (n := n6 + 1) (h := H7) (id := n4) (k := E - 1) (E := E) (j := 65) r5 (hc.t (E - 1) (by omega)) (by decide) ti35 rfl
  rw [fev_rd r5t]
  have tt := hc.tl (E - 1)
  have wt : IntKind.i64.wrap ((T (E - 1) : Nat) : Int) = ((T (E - 1) : Nat) : Int) := w64 (by omega) (by omega)
  simp only [fe_cons, fev_pure, core1, tyr, execOp, opd, putT, put, nth, und, sizeOf, lenOf, wrapI, strK, intK, getO, moved, fieldAddr, List.getElem?_cons_succ, List.getElem?_cons_zero, Nat.reduceAdd, Nat.zero_add, convert, convStr, isU8, wt]
  rw [fev_rd (ld9 k3 rfl ti3 rfl)]
  have eE : e ≤ E := Nat.le_of_dvd (by omega) (Nat.dvd_of_mod_eq_zero c)
  have we : IntKind.i64.wrap (((E : Nat) : Int) - p.e) = ((E - e : Nat) : Int) := by rw [w64 (by omega) (by omega)]; omega
  simp only [fe_cons, fev_pure, hkr, execOp, opd, opds, putT, put, nth, doCall, callV_func, bor, binInt, shiftB, intOp, wrapI, List.cons_append, List.nil_append, Nat.reduceAdd, decide_true, we]
  refine fev_in (lowS n) f7 (f61 (E - e) E id bl bf cap cs T B _ _ (by omega) hE hc (hr.only (lowS_in hid)) (hb.only (lowS_in hbl)) (by omega) (by omega) f7.only) fun v8 h8 n8 r8 w8 g8 hn8 f8 ⟨e8, o8⟩ a8 b8 c8 d8 => ?_
  subst e8
  have x0 : n ∉ w8 := not_in d8 (lowS_out (by omega))
  have x4 : n4 ∉ w8 := not_in d8 (lowS_out (by omega))
  have x6 : n6 ∉ w8 := not_in d8 (lowS_out (by omega))
  have oh : Old h h8 n := fun j hj => by
    rw [a8 j (.inl (lowS_in (by omega))), o8 j (by omega), only_in (lowS_in (by omega))]
    exact oh j hj
  have td := hc.tl (E - e)
  have gt : (hdOf cs (E - e))[65]? = some (.int .u32 (T (E - e) : Nat)) := by rw [hd_get (by decide)]; exact hc.t _ (by omega)
  have wt2 : IntKind.i64.wrap ((T (E - e) : Nat) : Int) = ((T (E - e) : Nat) : Int) := w64 (by omega) (by omega)
  have wd2 : IntKind.i64.wrap (((T (E - 1) : Nat) : Int) - ((T (E - e) : Nat) : Int)) = tookOf p E T := by rw [w64 (by omega) (by omega)]; unfold tookOf; rw [een]
  have bt : -4294967296 ≤ tookOf p E T ∧ tookOf p E T ≤ 4294967296 := by unfold tookOf; rw [een]; omega
  simp only [fe_cons, fev_pure, core1, tyr, hkr, execOp, opd, opds, putT, put, nth, doCall, callV_func, und, lenOf, bor, binInt, shiftB, intOp, wrapI, strK, intK, aggK, aggB, getO, field, part, List.getElem?_cons_succ, List.getElem?_cons_zero, List.nil_append, List.append_nil, Nat.reduceAdd, decide_true, convert, convStr, isU8, gt, wt2, wd2]
  obtain ⟨lo, o0, _, _⟩ := expV_some ho
  have hs : 1 ≤ p.s ∧ p.s ≤ 2147483647 := by have := hp.s1; have := hp.s2; omega
  have hk : ((kOf p (tookOf p E T) : Nat) : Int) = min (max (max (tookOf p E T) (p.s / 4)) 1) (4 * p.s) := by unfold kOf; omega
  rw [show AVal.agg [AVal.int IntKind.u64 (wd old 0 : Nat), AVal.int IntKind.u64 (wd old 1 : Nat), AVal.int IntKind.u64 (wd old 2 : Nat), AVal.int IntKind.u64 (wd old 3 : Nat)] = W old from rfl]
  refine fev_free f8 (f60 p old lim (kOf p (tookOf p E T)) (tookOf p E T) _ _ lL hl hs lo o0 bt hk Free.none) (f60 p old lim (kOf p (tookOf p E T)) (tookOf p E T) _ _ lL hl hs lo o0 bt hk f8) fun v9 h9 n9 hn9 f9 ⟨e9, o9⟩ => ?_
  subst e9
  have bb : bitsS p old lim E T B = compA (scS old (kOf p (tookOf p E T)) p.s.toNat lim) := by unfold bitsS; rw [een, if_pos c]
  rw [bb]
  have oh : Old h h9 n := fun j hj => (o9 j (by omega)).trans (oh j hj)
  unfold compA
  split
  all_goals
    simp only [fe_nil, fe_cons, fev_pure, core1, fgr, execOp, opd, putT, put, nth, forgetL, extract, getO, List.getElem?_cons_succ, List.getElem?_cons_zero, Nat.reduceAdd, true_and]
    refine ⟨(by (try simp (disch := first | assumption | omega) only [fine, List.all_cons, List.all_nil, clash_pl, clash_pr, clash_rr, Bool.not_false, Bool.true_or, Bool.and_true, Bool.true_and, clash_xn, clash_xs]); repeat' (first | rfl | exact (Bool.or_eq_true _ _).mpr (.inr rfl) | refine (Bool.and_eq_true _ _).mpr ⟨?_, ?_⟩)), ?_⟩
    exact oh
set_option maxHeartbeats 8000000 in
theorem f33 (p : Pa) (hp : p.ok) (old lim E id : Nat) (cap : Option Nat) (cs : List AVal) (T B : Nat → Nat) (h : Hp) (n : Nat) (lL : p.L < 4294967296) (hl : expV p.L = some lim) (hE : E ≤ 2016) (hE1 : 1 ≤ E) (hc : Hds cs E T B) (ho : expV (B (E - 1)) = some old)
    (hr : Row h id cs) (hid : id < n) (hf : Free h n) :
    Wp (callI env (evalW env) 33 [.agg p.cells, .sl id 0 E cap 68]) h n fun v' h' n' => v' = bitsS p old lim E T B ∧ Old h h' n := by
  refine wp_callI ff33 fi33 ?_
  have k3 : ∀ j : Nat, j = n → (upd h n (some (Blk.row (Cont.l p.cells) 60))) j = some (Blk.row (Cont.l p.cells) 60) := fun j hj => by rw [hj]; exact upd_same _ _ _
  have k3 := k3 n rfl
  have oh : Old h (upd h n (some (Blk.row (Cont.l p.cells) 60))) n := fun j hj => upd_ne _ _ (by omega)
  have f0 : Free (upd h n (some (Blk.row (Cont.l p.cells) 60))) (n + 1) := hf.new
  have hr := hr.upd (i := n) (b := some (Blk.row (Cont.l p.cells) 60)) (by omega)
  simp only [fu33, Try.f33, Option.getD_some, List.replicate, core1, tyr, fgr, execOp, opd, opds, ofValue, putT, put, nth, forgetL, doCall, builtin, one1, blr, cel, alloc, newRow, ended, resultOf, oneOrTup, List.append_eq, List.cons_append, List.nil_append, List.length_cons, List.length_nil, Nat.reduceAdd, Nat.reduceSub, Nat.zero_add, wp_pure]
  generalize upd h n (some (Blk.row (Cont.l p.cells) 60)) = h0 at *
  rw [opv_rd (Row.whole ⟨_, k3⟩ ti60 rfl rfl)]
  simp only [core1, hkr, execOp, opd, opds, putT, put, nth, doCall, callV_func, List.nil_append, List.append_nil]
  refine opv_callf f0 (f62 p _ _ lL f0) fun v2 h2 n2 hn2 f2 ⟨⟨r2, e2, q2⟩, o2⟩ => ?_
  have k3 := (o2 n (by omega)).trans k3
  have hr := hr.keep (o2 _ (by omega))
  have oh : Old h h2 n := fun j hj => (o2 j (by omega)).trans (oh j hj)
  obtain rfl : r2 = 0 := q2.elim (·.2) (fun q => absurd hp q.1)
  subst e2
  have cE : ¬ ((E : Nat) : Int) < 1 := by omega
  simp only [core1, fgr, execOp, opd, ofValue, putT, put, nth, forgetL, bor, binInt, shiftB, intOp, wrapI, doPick, branch, List.getElem?_cons_succ, List.getElem?_cons_zero, decide_true, decide_false, bne_self_eq_false, cE]
  have w1 : IntKind.i64.wrap (((E : Nat) : Int) - 1) = ((E - 1 : Nat) : Int) := by rw [w64 (by omega) (by omega)]; omega
  simp only [w1]
  rw [opv_rd (sl_idx (j := E - 1) u62 s64 rfl (by omega))]
  simp only [core1, tyr, execOp, opd, putT, put, nth, und, sizeOf, getO, moved, fieldAddr, List.getElem?_cons_succ, List.getElem?_cons_zero, Nat.zero_add]
  rw [opv_rd (hr.one (hc.b (E - 1) (by omega)) ti35 rfl)]
  simp only [core1, hkr, execOp, opd, opds, putT, put, nth, doCall, callV_func, List.nil_append, List.append_nil]
  refine opv_callf f2 (f21 (B (E - 1)) _ _ (hc.bl _) f2) fun v6 h6 n6 hn6 f6 ⟨e6, o6⟩ => ?_
  subst e6
  rw [expA_some ho]
  have k3 := (o6 n (by omega)).trans k3
  have hr := hr.keep (o6 _ (by omega))
  have oh : Old h h6 n := fun j hj => (o6 j (by omega)).trans (oh j hj)
  simp only [core1, tyr, execOp, opd, putT, put, nth, zeroOf, cel, alloc, doAlloc, newRow, extract, getO, List.getElem?_cons_succ, List.getElem?_cons_zero, W]
  refine opv_all4 (arr_0 (upd_same _ _ _)) ti25 rfl fun b7 k7 => ?_
  have k7 := pick_wd k7
  have s7 : ∀ j, j < n6 → (upd (upd h6 n6 (some (Blk.row (Cont.l [AVal.int IntKind.u64 0, AVal.int IntKind.u64 0, AVal.int IntKind.u64 0, AVal.int IntKind.u64 0]) 25))) n6 (some b7)) j = h6 j := fun j hj => by rw [upd_ne _ _ (by omega), upd_ne _ _ (by omega)]
  have f7 : Free (upd (upd h6 n6 (some (Blk.row (Cont.l [AVal.int IntKind.u64 0, AVal.int IntKind.u64 0, AVal.int IntKind.u64 0, AVal.int IntKind.u64 0]) 25))) n6 (some b7)) (n6 + 1) := f6.new.upd (by omega)
  generalize (upd (upd h6 n6 (some (Blk.row (Cont.l [AVal.int IntKind.u64 0, AVal.int IntKind.u64 0, AVal.int IntKind.u64 0, AVal.int IntKind.u64 0]) 25))) n6 (some b7)) = H7 at *
  have k3 := (s7 n (by omega)).trans k3
  have hr := hr.keep (s7 _ (by omega))
  have oh : Old h H7 n := fun j hj => (s7 j (by omega)).trans (oh j hj)
  simp only [core1, tyr, fgr, execOp, opd, ofValue, putT, put, nth, forgetL, und, sizeOf, bor, binInt, shiftB, intOp, getO, moved, fieldAddr, List.getElem?_cons_succ, List.getElem?_cons_zero, decide_true, Nat.zero_add, bne_self_eq_false]
  rw [opv_rd (ld9 k3 rfl ti3 rfl)]
  simp only [core1, fgr, execOp, opd, ofValue, putT, put, nth, forgetL, bor, binInt, shiftB, intOp, gt_iff_lt, decide_not, decide_true]
  obtain ⟨e, he⟩ : ∃ e : Nat, p.e = (e : Nat) := ⟨p.e.toNat, by have := hp.e1.1; omega⟩
  have e0 : 2 ≤ e := by have := hp.e1.1; omega
  have een : p.e.toNat = e := by omega
  have he0 : ¬ p.e = 0 := by omega
  have hm : Int.tmod ((E : Nat) : Int) p.e = ((E % e : Nat) : Int) := by rw [he]; exact Int.ofNat_tmod _ _
  refine ⟨by rw [decide_eq_false he0]; rfl, ?_⟩
  rw [hm]
  by_cases c : E % e = 0
  case neg =>
    have c' : 0 < ((E % e : Nat) : Int) := by omega
    simp only [core1, execOp, opd, ofValue, putT, put, nth, bor, binInt, shiftB, intOp, wrapI, decide_true, c', w1]
    rw [opv_rd (sl_idx (j := E - 1) u62 s64 rfl (by omega))]
    simp only [core1, tyr, execOp, opd, putT, put, nth, und, sizeOf, getO, moved, fieldAddr, List.getElem?_cons_succ, List.getElem?_cons_zero, Nat.zero_add]
    rw [opv_rd (hr.one (hc.b (E - 1) (by omega)) ti35 rfl)]
    simp only [core1, fgr, execOp, opd, ofValue, putT, put, nth, forgetL, true_and]
    refine ⟨?_, oh⟩
    unfold bitsS
    rw [een, if_neg c]
  have c' : ¬ 0 < ((E % e : Nat) : Int) := by omega
  simp only [core1, decide_false, c']
  refine run_draw.2 ⟨rfl, ?_⟩
  simp only [fe_cons, fev_pure, execOp, opd, ofValue, putT, put, nth, bor, binInt, shiftB, intOp, wrapI, Nat.reduceAdd, decide_true, Nat.zero_add, w1]
  rw [fev_rd (sl_idx (j := E - 1) u62 s64 rfl (by omega))]
  simp only [fe_cons, fev_pure, core1, tyr, execOp, opd, putT, put, nth, und, sizeOf, getO, moved, fieldAddr, List.getElem?_cons_succ, List.getElem?_cons_zero, Nat.reduceAdd, Nat.zero_add]
  rw [fev_rd (hr.one (hc.t (E - 1) (by omega)) ti35 rfl)]
  have tt := hc.tl (E - 1)
  have wt : IntKind.i64.wrap ((T (E - 1) : Nat) : Int) = ((T (E - 1) : Nat) : Int) := w64 (by omega) (by omega)
  simp only [fe_cons, fev_pure, core1, tyr, execOp, opd, putT, put, nth, und, sizeOf, lenOf, wrapI, strK, intK, getO, moved, fieldAddr, List.getElem?_cons_succ, List.getElem?_cons_zero, Nat.reduceAdd, Nat.zero_add, convert, convStr, isU8, wt]
  rw [fev_rd (ld9 k3 rfl ti3 rfl)]
  have eE : e ≤ E := Nat.le_of_dvd (by omega) (Nat.dvd_of_mod_eq_zero c)
  have we : IntKind.i64.wrap (((E : Nat) : Int) - p.e) = ((E - e : Nat) : Int) := by rw [w64 (by omega) (by omega)]; omega
  simp only [fe_cons, fev_pure, execOp, opd, putT, put, nth, bor, binInt, shiftB, intOp, wrapI, Nat.reduceAdd, decide_true, we]
  rw [fev_rd (sl_idx (j := E - e) u62 s64 rfl (by omega))]
  simp only [fe_cons, fev_pure, core1, tyr, execOp, opd, putT, put, nth, und, sizeOf, getO, moved, fieldAddr, List.getElem?_cons_succ, List.getElem?_cons_zero, Nat.reduceAdd, Nat.zero_add]
  rw [fev_rd (hr.one (hc.t (E - e) (by omega)) ti35 rfl)]
  have td := hc.tl (E - e)
  have wt2 : IntKind.i64.wrap ((T (E - e) : Nat) : Int) = ((T (E - e) : Nat) : Int) := w64 (by omega) (by omega)
  have wd2 : IntKind.i64.wrap (((T (E - 1) : Nat) : Int) - ((T (E - e) : Nat) : Int)) = tookOf p E T := by rw [w64 (by omega) (by omega)]; unfold tookOf; rw [een]
  have bt : -4294967296 ≤ tookOf p E T ∧ tookOf p E T ≤ 4294967296 := by unfold tookOf; rw [een]; omega
  simp only [fe_nil, fe_cons, fev_pure, core1, tyr, fgr, execOp, opd, putT, put, nth, forgetL, und, sizeOf, lenOf, bor, binInt, shiftB, intOp, wrapI, strK, intK, getO, moved, fieldAddr, List.getElem?_cons_succ, List.getElem?_cons_zero, Nat.reduceAdd, decide_true, Nat.zero_add, convert, convStr, isU8, wt2, wd2]
  refine ⟨(by (try simp (disch := first | assumption | omega) only [fine, List.all_cons, List.all_nil, clash_pr, clash_rr, Bool.not_false, Bool.true_or, Bool.and_true]); repeat' (first | rfl | exact (Bool.or_eq_true _ _).mpr (.inr rfl) | refine (Bool.and_eq_true _ _).mpr ⟨?_, ?_⟩)), ?_⟩
  obtain ⟨lo, o0, _, _⟩ := expV_some ho
  have hs : 1 ≤ p.s ∧ p.s ≤ 2147483647 := by have := hp.s1; have := hp.s2; omega
  have hk : ((kOf p (tookOf p E T) : Nat) : Int) = min (max (max (tookOf p E T) (p.s / 4)) 1) (4 * p.s) := by unfold kOf; omega
  have bb : bitsS p old lim E T B = compA (scS old (kOf p (tookOf p E T)) p.s.toNat lim) := by unfold bitsS; rw [een, if_pos c]
  rw [bb]
  generalize kOf p (tookOf p E T) = K at *
  generalize tookOf p E T = took at *
  have q4 : IntKind.i64.wrap (Int.tdiv p.s 4) = p.s / 4 := by rw [Int.tdiv_eq_ediv_of_nonneg (by omega), w64 (by omega) (by omega)]
  have m4 : IntKind.i64.wrap (4 * p.s) = 4 * p.s := w64 (by omega) (by omega)
  rw [opv_rd (ld9 k3 rfl ti2 rfl)]
  refine Or.elim (Classical.em (4 * p.s < took)) (fun a1 => ?p1) (fun a1 => ?n1)
  case' p1 =>
    simp only [core1, tyr, fgr, execOp, opd, ofValue, putT, put, nth, forgetL, und, sizeOf, bor, binInt, shiftB, intOp, wrapI, getO, moved, fieldAddr, List.getElem?_cons_succ, List.getElem?_cons_zero, gt_iff_lt, decide_true, Nat.zero_add, m4, a1]
    rw [opv_rd (ld9 k3 rfl ti2 rfl)]
    have a2 : ¬ 4 * p.s < p.s / 4 := by omega
    have a3 : ¬ 4 * p.s < 1 := by omega
    simp only [core1, tyr, fgr, execOp, opd, ofValue, putT, put, nth, forgetL, und, sizeOf, bor, binInt, shiftB, intOp, wrapI, getO, moved, fieldAddr, List.getElem?_cons_succ, List.getElem?_cons_zero, decide_true, Nat.zero_add, m4]
    rw [opv_rd (ld9 k3 rfl ti2 rfl)]
    simp only [core1, tyr, fgr, execOp, opd, ofValue, putT, put, nth, forgetL, und, sizeOf, bor, binInt, shiftB, intOp, wrapI, getO, moved, fieldAddr, List.getElem?_cons_zero, Int.reduceNe, decide_true, decide_false, true_and, Nat.zero_add, q4, a2, a3]
    rw [show AVal.int IntKind.i64 (4 * p.s) = AVal.int IntKind.i64 ((K : Nat) : Int) by rw [show 4 * p.s = ((K : Nat) : Int) by omega]]
  case' n1 =>
    simp only [core1, tyr, fgr, execOp, opd, ofValue, putT, put, nth, forgetL, und, sizeOf, bor, binInt, shiftB, intOp, wrapI, getO, moved, fieldAddr, List.getElem?_cons_succ, List.getElem?_cons_zero, gt_iff_lt, decide_true, decide_false, Nat.zero_add, m4, a1]
    rw [opv_rd (ld9 k3 rfl ti2 rfl)]
    refine Or.elim (Classical.em (took < p.s / 4)) (fun a2 => ?p2) (fun a2 => ?n2)
  case' p2 =>
    simp only [core1, tyr, fgr, execOp, opd, ofValue, putT, put, nth, forgetL, und, sizeOf, bor, binInt, shiftB, intOp, wrapI, getO, moved, fieldAddr, List.getElem?_cons_succ, List.getElem?_cons_zero, Int.reduceNe, decide_true, true_and, Nat.zero_add, q4, a2]
    rw [opv_rd (ld9 k3 rfl ti2 rfl)]
    refine Or.elim (Classical.em (p.s / 4 < 1)) (fun a3 => ?p3) (fun a3 => ?n3)
  case' p3 =>
    simp only [core1, tyr, fgr, execOp, opd, ofValue, putT, put, nth, forgetL, und, sizeOf, bor, binInt, shiftB, intOp, wrapI, getO, moved, fieldAddr, List.getElem?_cons_zero, Int.reduceNe, decide_true, true_and, Nat.zero_add, q4, a3]
    rw [show AVal.int IntKind.i64 1 = AVal.int IntKind.i64 ((K : Nat) : Int) by rw [show (1 : Int) = ((K : Nat) : Int) by omega]]
  case' n3 =>
    simp only [core1, tyr, fgr, execOp, opd, ofValue, putT, put, nth, forgetL, und, sizeOf, bor, binInt, shiftB, intOp, wrapI, getO, moved, fieldAddr, List.getElem?_cons_zero, Int.reduceNe, decide_true, decide_false, true_and, Nat.zero_add, q4, a3]
    rw [show AVal.int IntKind.i64 (p.s / 4) = AVal.int IntKind.i64 ((K : Nat) : Int) by rw [show p.s / 4 = ((K : Nat) : Int) by omega]]
  case' n2 =>
    simp only [core1, fgr, execOp, opd, ofValue, putT, put, nth, forgetL, bor, binInt, shiftB, intOp, wrapI, Int.reduceNe, decide_true, decide_false, true_and, q4, a2]
    refine Or.elim (Classical.em (took < 1)) (fun a3 => ?p4) (fun a3 => ?n4)
  case' p4 =>
    simp only [core1, tyr, fgr, execOp, opd, ofValue, putT, put, nth, forgetL, und, sizeOf, getO, moved, fieldAddr, List.getElem?_cons_zero, decide_true, Nat.zero_add, a3]
    rw [show AVal.int IntKind.i64 1 = AVal.int IntKind.i64 ((K : Nat) : Int) by rw [show (1 : Int) = ((K : Nat) : Int) by omega]]
  case' n4 =>
    simp only [core1, tyr, execOp, opd, putT, put, nth, und, sizeOf, getO, moved, fieldAddr, List.getElem?_cons_zero, decide_false, Nat.zero_add, a3]
    rw [show AVal.int IntKind.i64 took = AVal.int IntKind.i64 ((K : Nat) : Int) by rw [show took = ((K : Nat) : Int) by omega]]
  all_goals
    rw [opv_rd (ld9 k3 rfl ti35 rfl)]
    simp only [core1, hkr, execOp, opd, opds, putT, put, nth, doCall, callV_func, List.nil_append, List.append_nil]
    refine opv_callf f7 (f21 p.L _ _ lL f7) fun v9 h9 n9 hn9 f9 ⟨e9, o9⟩ => ?_
    subst e9
    rw [expA_some hl]
    have k3 := (o9 n (by omega)).trans k3
    have k7 := k7.keep (o9 _ (by omega))
    have oh : Old h h9 n := fun j hj => (o9 j (by omega)).trans (oh j hj)
    simp only [core1, tyr, execOp, opd, putT, put, nth, zeroOf, cel, alloc, doAlloc, newRow, extract, getO, List.getElem?_cons_succ, List.getElem?_cons_zero, W]
    refine opv_all4 (arr_0 (upd_same _ _ _)) ti25 rfl fun bA kA => ?_
    have kA := pick_wd kA
    have sA : ∀ j, j < n9 → (upd (upd h9 n9 (some (Blk.row (Cont.l [AVal.int IntKind.u64 0, AVal.int IntKind.u64 0, AVal.int IntKind.u64 0, AVal.int IntKind.u64 0]) 25))) n9 (some bA)) j = h9 j := fun j hj => by rw [upd_ne _ _ (by omega), upd_ne _ _ (by omega)]
    have fA : Free (upd (upd h9 n9 (some (Blk.row (Cont.l [AVal.int IntKind.u64 0, AVal.int IntKind.u64 0, AVal.int IntKind.u64 0, AVal.int IntKind.u64 0]) 25))) n9 (some bA)) (n9 + 1) := f9.new.upd (by omega)
    generalize (upd (upd h9 n9 (some (Blk.row (Cont.l [AVal.int IntKind.u64 0, AVal.int IntKind.u64 0, AVal.int IntKind.u64 0, AVal.int IntKind.u64 0]) 25))) n9 (some bA)) = HA at *
    have k3 := (sA n (by omega)).trans k3
    have k7 := k7.keep (sA _ (by omega))
    have oh : Old h HA n := fun j hj => (sA j (by omega)).trans (oh j hj)
    obtain ⟨S, eS⟩ : ∃ S : Nat, p.s = (S : Nat) := ⟨p.s.toNat, by omega⟩
    have cS : IntKind.u64.wrap p.s = ((S : Nat) : Int) := by rw [eS]; exact wu64 (by omega) (by omega)
    have ck : IntKind.u64.wrap ((K : Nat) : Int) = ((K : Nat) : Int) := wu64 (by omega) (by omega)
    have hSn : p.s.toNat = S := by omega
    obtain ⟨ll, l0, _, _⟩ := expV_some hl
    have okk : okB K = true := by unfold okB; rw [decide_eq_true (by omega), decide_eq_true (by omega)]; rfl
    have okS : okB S = true := by unfold okB; rw [decide_eq_true (by omega), decide_eq_true (by omega)]; rfl
    have ns : ¬ noSc old K S lim := fun q => q.elim o0 fun q => q.elim l0 fun q => q.elim (fun q => by rw [okk] at q; cases q) (fun q => by rw [okS] at q; cases q)
    obtain ⟨sq, se⟩ := sc_some ns
    have lx : scS old K S lim < b256 := Nat.lt_of_le_of_lt (scS_facts o0 l0 (by omega)).1 ll
    simp only [core1, fgr, execOp, opd, putT, put, nth, forgetL]
    rw [opv_rd (k7.all ti25 rfl rfl), range4]
    simp only [core1, tyr, execOp, opd, putT, put, nth, und, sizeOf, lenOf, wrapI, strK, intK, getO, moved, fieldAddr, List.getElem?_cons_succ, List.getElem?_cons_zero, Nat.zero_add, convert, convStr, isU8, ck]
    rw [opv_rd (ld9 k3 rfl ti2 rfl)]
    simp only [core1, tyr, execOp, opd, putT, put, nth, und, lenOf, wrapI, strK, intK, convert, convStr, isU8, cS]
    rw [opv_rd (kA.all ti25 rfl rfl), range4]
    simp only [core1, hkr, execOp, opd, opds, putT, put, nth, doCall, callV_func, List.nil_append, List.append_nil]
    refine opv_callf fA (f11 old K S lim _ _ lo ll (by omega) (by omega) fA) fun v8 h8 n8 hn8 f8 ⟨e8, o8⟩ => ?_
    subst e8
    rw [scaleA_eq, sq, se]
    have oh : Old h h8 n := fun j hj => (o8 j (by omega)).trans (oh j hj)
    simp only [core1, tyr, execOp, opd, putT, put, nth, zeroOf, cel, alloc, doAlloc, newRow, extract, getO, List.getElem?_cons_succ, List.getElem?_cons_zero, W]
    refine opv_all4 (arr_0 (upd_same _ _ _)) ti25 rfl fun bB kB => ?_
    have kB := pick_wd kB
    have sB : ∀ j, j < n8 → (upd (upd h8 n8 (some (Blk.row (Cont.l [AVal.int IntKind.u64 0, AVal.int IntKind.u64 0, AVal.int IntKind.u64 0, AVal.int IntKind.u64 0]) 25))) n8 (some bB)) j = h8 j := fun j hj => by rw [upd_ne _ _ (by omega), upd_ne _ _ (by omega)]
    have fB : Free (upd (upd h8 n8 (some (Blk.row (Cont.l [AVal.int IntKind.u64 0, AVal.int IntKind.u64 0, AVal.int IntKind.u64 0, AVal.int IntKind.u64 0]) 25))) n8 (some bB)) (n8 + 1) := f8.new.upd (by omega)
    generalize (upd (upd h8 n8 (some (Blk.row (Cont.l [AVal.int IntKind.u64 0, AVal.int IntKind.u64 0, AVal.int IntKind.u64 0, AVal.int IntKind.u64 0]) 25))) n8 (some bB)) = HB at *
    have oh : Old h HB n := fun j hj => (sB j (by omega)).trans (oh j hj)
    simp only [core1, fgr, execOp, opd, putT, put, nth, forgetL]
    rw [opv_rd (kB.all ti25 rfl rfl), range4]
    simp only [core1, hkr, execOp, opd, opds, putT, put, nth, doCall, callV_func, List.nil_append, List.append_nil]
    refine opv_callf fB (f22 (scS old K S lim) _ _ lx fB) fun v5 h5 n5 hn5 f5 ⟨e5, o5⟩ => ?_
    subst e5
    rw [hSn]
    simp only [compA_eq]
    simp only [core1, fgr, execOp, opd, putT, put, nth, forgetL, extract, getO, List.getElem?_cons_succ, List.getElem?_cons_zero, true_and]
    exact fun j hj => (o5 j (by omega)).trans (oh j hj)
/- The chapter's first examples. -/
theorem f32 (v : AVal) (i : Nat) (hv : v.cells = [v] ∧ oneCell v = true ∧ isJunk v = false) (h : Hp) (n : Nat) (hf : Free h n) : Wp (callI env (evalW env) 32 [v, .ptr i 0]) h n fun v' h' n' => v' = .fn (.func 61) [] [.ptr n 0, .ptr (n + 1) 0] ∧ n' = n + 2 ∧ Row h' n [v] ∧ Row h' (n + 1) [.ptr i 0] ∧ Old h h' n ∧ Free h' n' := by
  refine wp_callI ff32 fi32 ?_
  simp only [fu32, Try.f32, Option.getD_some, List.replicate, core1, execOp, opd, nth, ended, resultOf, oneOrTup, List.cons_append, List.nil_append, List.length_cons, List.length_nil, Nat.reduceAdd, Nat.reduceSub, Nat.zero_add, wp_pure]
  refine opv_box (i := ⟨Go.TypeDesc.slice 64, 1, 24, .nils⟩) ti62 hv.2.2 hf fun h1 r1 o1 f1 => ?_
  simp only [core1, execOp, opd, putT, put, nth]
  refine opv_box (v := .ptr i 0) ti68 rfl f1 fun h2 r2 o2 f2 => ?_
  rw [hv.1] at r1
  simp only [core1, fgr, execOp, opd, opds, ofValue, putT, put, nth, forgetL, true_and]
  exact ⟨r1.keep (o2 _ (by omega)), r2, fun j hj => (o2 j (by omega)).trans (o1 j (by omega)), f2⟩
def hdc (t b : Nat) : List AVal := .int .u32 0 :: (List.replicate 64 (.int .u8 0) ++ [.int .u32 (t : Nat), .int .u32 (b : Nat), .int .u32 0])
theorem hdc_len (t b : Nat) : (hdc t b).length = 68 := rfl
theorem hdc_one (t b : Nat) : (hdc t b).all oneCell = true := rfl
theorem hdc_t (t b : Nat) : (hdc t b)[65]? = some (.int .u32 (t : Nat)) := rfl
theorem hdc_b (t b : Nat) : (hdc t b)[66]? = some (.int .u32 (b : Nat)) := rfl
theorem build_h (t b : Nat) : build env 64 [(4, .int .u32 (b : Nat)), (3, .int .u32 (t : Nat))] = M.pure (.agg (hdc t b)) := rfl
theorem build_h2 (t b : Nat) : build env 64 [(3, .int .u32 (t : Nat)), (4, .int .u32 (b : Nat))] = M.pure (.agg (hdc t b)) := rfl
theorem build_s (t b : Nat) : buildSlice env 62 1 [(0, .agg (hdc t b))] = (newRow env 64 (hdc t b)).bind fun id => M.pure (.sl id 0 1 (some 1) 68) := rfl
def lim0 : Nat := 545259519
def usualP : Pa := ⟨lim0, 4, 400, 5000, 10, 2, 5, 3, 1000⟩
theorem f68 (h : Hp) (n : Nat) (hf : Free h n) : Wp (callI env (evalW env) 68 []) h n fun v' h' n' => v' = .agg usualP.cells ∧ Old h h' n := by
  refine wp_callI ff68 fi68 ?_
  simp (disch := omega) only [fu68, Try.f68, Option.getD_some, List.replicate, core1, tyr, fgr, execOp, opd, ofValue, ops2, putT, put, nth, forgetL, sizeOf, zeroOf, readCells, cellsOf, aggB, cel, alloc, doAlloc, newRow, getO, ended, resultOf, oneOrTup, rowK, List.getElem?_cons_succ, List.getElem?_cons_zero, List.cons_append, List.nil_append, List.append_nil, List.length_cons, List.length_nil, Nat.reduceAdd, Nat.reduceSub, Nat.beq, not_false_eq_true, Bool.not_false, Bool.and_true, Bool.true_and, true_and, Nat.zero_add, Nat.zero_mul, wp_pure, reduceCtorEq, memr, build, fill, sizesOf, List.take_succ_cons, List.take_zero, List.drop_succ_cons, List.drop_zero, Nat.ble, Nat.one_mul, writeCells, setAll, Cont.size, Cont.set, Cont.sub, upd_same, List.all_cons, List.all_nil, Option.some.injEq, exists_eq_left', ne_eq, true_and, List.length_cons, List.length_nil, Nat.zero_mul, wp_get, wp_ob, build, sizesOf]
  exact ⟨rfl, ((Old.refl _ _).upd (Nat.le_refl _)).upd (Nat.le_refl _)⟩
def cellsH (f : Nat → Nat) : Nat → List AVal
  | 0 => []
  | i + 1 => cellsH f i ++ hdc (f i) lim0
theorem cellsH_len (f : Nat → Nat) : ∀ i, (cellsH f i).length = i * 68 := by
  intro i
  induction i with
  | zero => rfl
  | succ i ih => simp only [cellsH, List.length_append, ih, hdc_len]; omega
theorem cellsH_one (f : Nat → Nat) : ∀ i, (cellsH f i).all oneCell = true := by
  intro i
  induction i with
  | zero => rfl
  | succ i ih => simp only [cellsH, List.all_append, ih, hdc_one]; rfl
theorem cellsH_get (f : Nat → Nat) : ∀ i k j, k < i → j < 68 → (cellsH f i)[k * 68 + j]? = (hdc (f k) lim0)[j]? := by
  intro i
  induction i with
  | zero => intro k j hk; omega
  | succ i ih =>
    intro k j hk hj
    simp only [cellsH]
    by_cases c : k < i
    · rw [List.getElem?_append_left (by rw [cellsH_len]; omega)]
      exact ih k j c hj
    · have : k = i := by omega
      subst this
      rw [List.getElem?_append_right (by rw [cellsH_len]; omega), cellsH_len]
      congr 1; omega
theorem cellsH_ok (f : Nat → Nat) (hl : ∀ k, f k < 4294967296) (E : Nat) : Hds (cellsH f E) E f (fun _ => lim0) where
  len := cellsH_len f E
  one := cellsH_one f E
  t := fun k hk => by rw [cellsH_get f E k 65 hk (by decide)]; exact hdc_t _ _
  b := fun k hk => by rw [cellsH_get f E k 66 hk (by decide)]; exact hdc_b _ _
  tl := hl
  bl := fun _ => by decide
theorem loop58 (Q : Post0) (ks : List Kf) (m it n0 : Nat) (vt : AVal) (f : Nat → Nat) (h0 : Hp) (hm : m ≤ 100) (hit : it < n0)
    (hq : ∀ (h : Hp) n v (x0 x2 x5 x8 x9 : AVal), Own h n 64 68 v m (cellsH f m) → (∀ j, ownId v = some j → n0 ≤ j) → Old h0 h n0 → n0 ≤ n → Free h n → Kont env 58 none Q ks (.exit 0) (x0 :: AVal.junk :: x2 :: v :: AVal.junk :: x5 :: vt :: .int .i64 (m : Nat) :: x8 :: x9 :: AVal.junk :: AVal.junk :: AVal.junk :: AVal.junk :: AVal.junk :: AVal.junk :: AVal.junk :: AVal.junk :: AVal.junk :: []) h n) :
    ∀ (k i : Nat) (h : Hp) (n : Nat) (v : AVal) (x0 x2 x5 x9 : AVal), i + k = m → Ints .u32 h vt it m (fun j => (f j : Nat)) → Own h n 64 68 v i (cellsH f i) → (∀ j, ownId v = some j → n0 ≤ j) → Old h0 h n0 → n0 ≤ n → Free h n →
    Run env 58 none Q (.loop lp58_0) ks (x0 :: AVal.junk :: x2 :: v :: AVal.junk :: x5 :: vt :: .int .i64 (m : Nat) :: .int .i64 (i : Nat) :: x9 :: AVal.junk :: AVal.junk :: AVal.junk :: AVal.junk :: AVal.junk :: AVal.junk :: AVal.junk :: AVal.junk :: AVal.junk :: []) h n := by
  intro k
  induction k with
  | zero =>
    intro i h n v x0 x2 x5 x9 hi hv ho hid hold hn hf
    have : i = m := by omega
    subst this
    have hc : ¬ ((i : Nat) : Int) < ((i : Nat) : Int) := by omega
    rw [run_loop]
    simp only [lp58_0, loopsOf, Try.f58, Option.getD_some, core1, fgr, execOp, opd, putT, put, nth, forgetL, bor, binInt, shiftB, intOp, List.nil_append, List.append_nil, decide_true, decide_false, List.getD_cons_zero, hc]
    exact hq h n v _ _ _ _ _ ho hid hold hn hf
  | succ k ih =>
    intro i h n v x0 x2 x5 x9 hi hv ho hid hold hn hf
    have h4 : i < m := by omega
    have hc : ((i : Nat) : Int) < ((m : Nat) : Int) := by omega
    have hw : IntKind.i64.wrap (((i : Nat) : Int) + 1) = ((i + 1 : Nat) : Int) := by rw [w64 (by omega) (by omega)]; omega
    have u105 : und env 105 = M.pure (.slice 35) := rfl
    have z35 : sizeOf env 35 = M.pure 1 := rfl
    rw [run_loop]
    simp only [lp58_0, loopsOf, Try.f58, Option.getD_some, core1, fgr, execOp, opd, putT, put, nth, forgetL, bor, binInt, shiftB, intOp, List.nil_append, List.append_nil, decide_true, List.getD_cons_zero, hc]
    rw [opv_rd (hv.idx u105 z35 rfl h4)]
    simp only [core1, execOp, opd, putT, put, nth]
    rw [opv_rd (hv.load ti35 rfl h4)]
    simp only [core1, fgr, execOp, opd, ofValue, ops2, putT, put, nth, forgetL]
    rw [show (545259519 : Int) = ((lim0 : Nat) : Int) from rfl, build_h]
    simp only [core1, execOp, opd, ops2, putT, put, nth]
    rw [build_s]
    simp only [core1, tyr, execOp, opd, opds, putT, put, nth, doCall, builtin, two2, newRow]
    have ho' : Own (upd h n (some (Blk.row (Cont.l (hdc (f i) lim0)) 64))) (n + 1) 64 68 v i (cellsH f i) := ho.keep (by omega) (fun j hj => upd_ne _ _ (by have := ho.id_lt hj; omega))
    refine own_append (i := ty64.i) ho' u62 u62 ti64x (upd_same _ _ _) (k := 1) (i2 := n) rfl (by decide) (by decide) (hdc_one _ _) (fun q => by have := ho.id_lt q; omega) (by show 2 * (i + 1) * 80 ≤ _; omega) (by omega) ?_
    intro v2 h2 ho2 hid2 hold2
    simp only [core1, fgr, execOp, opd, ofValue, putT, put, nth, forgetL, bor, binInt, shiftB, intOp, wrapI, decide_true, hw]
    have hold3 : Old h0 h2 n0 := fun j hj => by
      rw [hold2 j (by omega) (fun q => by have := hid j q; omega), upd_ne _ _ (by omega)]
      exact hold j hj
    refine ih (i + 1) h2 (n + 1 + 1) v2 _ _ _ _ (by omega) (hv.keep ?_) ho2 (fun j hj => by rw [hid2] at hj; injection hj with hj; omega) hold3 (by omega) ?_
    · rw [hold2 it (by omega) (fun q => by have := hid it q; omega), upd_ne _ _ (by omega)]
    · intro j hj
      rw [hold2 j (by omega) (fun q => by have := ho.id_lt q; omega), upd_ne _ _ (by omega)]
      exact hf j (by omega)
theorem f58 (m it : Nat) (vt : AVal) (f : Nat → Nat) (h : Hp) (n : Nat) (hm : m ≤ 100) (hit : it < n) (hv : Ints .u32 h vt it m (fun j => (f j : Nat))) (hf : Free h n) :
    Wp (callI env (evalW env) 58 [vt]) h n fun v' h' n' => Own h' n' 64 68 v' m (cellsH f m) ∧ (∀ j, ownId v' = some j → n ≤ j) ∧ Old h h' n := by
  refine wp_callI ff58 fi58 ?_
  have u105 : und env 105 = M.pure (.slice 35) := rfl
  simp only [fu58, Try.f58, Option.getD_some, List.replicate, core1, fgr, execOp, opd, opds, ofValue, putT, put, nth, forgetL, doCall, builtin, one1, ended, resultOf, oneOrTup, List.cons_append, List.nil_append, List.length_cons, List.length_nil, Nat.reduceSub, Nat.zero_add, wp_pure]
  simp only [hv.len u105]
  simp only [core1, fgr, execOp, opd, ofValue, putT, put, forgetL]
  refine loop58 _ _ m it n vt f h hm hit ?_ m 0 h n .nils _ _ _ _ (by omega) hv .nil (fun j hj => by cases hj) (Old.refl _ _) (Nat.le_refl _) hf
  intro h1 n1 v1 x0 x2 x5 x8 x9 ho hid hold hn hf1
  simp only [core1, fgr, execOp, opd, putT, put, nth, forgetL, true_and]
  exact ⟨ho, hid, hold⟩
def x0 : Nat := 8388607 * 2 ^ 232
theorem lim0_e : expV lim0 = some x0 := by decide +kernel
theorem usual_ok : usualP.ok where
  hL := by show expE lim0 = 0; unfold expE; rw [lim0_e]
  e1 := by decide
  s1 := by decide
  s2 := by decide
  h1 := by decide
  m1 := by decide
  d1 := by decide
  x1 := by decide
  u1 := by decide
  u2 := by decide
theorem Own.row {h : Hp} {n m : Nat} {v : AVal} {cs : List AVal} (ho : Own h n 64 68 v m cs) (hm : 1 ≤ m) : ∃ id cap, v = .sl id 0 m cap 68 ∧ Row h id cs ∧ id < n := by
  cases ho with
  | nil => omega
  | sl id cnt xs hid hh hl => exact ⟨id, _, rfl, ⟨_, hh⟩, hid⟩
  | full id cnt xs e' hid hh hl => exact ⟨id, _, rfl, ⟨_, hh⟩, hid⟩
theorem f57 (f : Nat → Nat) (hl : ∀ k, f k < 4294967296) (E : Nat) (v : AVal) (h : Hp) (n : Nat) (hE : E ≤ 2016) (hE1 : 1 ≤ E) (ho : Own h n 64 68 v E (cellsH f E)) (hf : Free h n) :
    Wp (callI env (evalW env) 57 [v]) h n fun v' h' n' => v' = bitsS usualP x0 x0 E f (fun _ => lim0) ∧ Old h h' n := by
  obtain ⟨id, cap, rfl, hr, hid⟩ := Am.Ytmlagocbphoedaa.Own.row ho hE1
  refine wp_callI ff57 fi57 ?_
  simp only [fu57, Try.f57, Option.getD_some, List.replicate, core1, fgr, execOp, opd, ofValue, putT, put, forgetL, ended, resultOf, oneOrTup, List.cons_append, List.nil_append, List.length_cons, List.length_nil, Nat.reduceSub, Nat.zero_add, wp_pure]
  rw [opv_alloc ti3 rfl]
  simp only [core1, execOp, opd, ofValue, putT, put, nth, cel]
  refine opv_hold ti3 rfl rfl rfl hf fun h1 r1 o1 f1 => ?_
  have hr := hr.keep (o1 _ (by omega))
  have oh : Old h h1 n := fun j hj => o1 j (by omega)
  simp only [core1, fgr, hkr, execOp, opd, opds, putT, forgetL, doCall, callV_func, List.append_nil]
  refine opv_callf f1 (f68 _ _ f1) fun v2 h2 n2 hn2 f2 ⟨e2, o2⟩ => ?_
  subst e2
  have hr := hr.keep (o2 _ (by omega))
  have oh : Old h h2 n := fun j hj => (o2 j (by omega)).trans (oh j hj)
  simp only [core1, hkr, execOp, opd, opds, putT, put, nth, doCall, callV_func, builtin, one1, blr, List.nil_append, List.append_nil]
  refine opv_call (f32 _ n ⟨rfl, rfl, rfl⟩ h2 n2 f2) fun v3 h3 n3 hn3 ⟨e3, en3, r3, _, o3, f3⟩ => ?_
  subst e3
  have hr := hr.keep (o3 _ (by omega))
  have oh : Old h h3 n := fun j hj => (o3 j (by omega)).trans (oh j hj)
  simp only [core1, hkr, execOp, opd, opds, putT, put, nth, doCall, callV_func, List.nil_append, List.append_nil]
  refine opv_callf f3 (f31 usualP usual_ok x0 x0 E id n2 (n2 + 1) cap (cellsH f E) f (fun _ => lim0) h3 n3 (by decide) lim0_e hE hE1 (cellsH_ok f hl E) lim0_e hr r3 (by omega) (by omega) (by omega) f3) fun v4 h4 n4 hn4 f4 ⟨e4, o4⟩ => ?_
  subst e4
  have oh : Old h h4 n := fun j hj => (o4 j (by omega)).trans (oh j hj)
  unfold bitsS
  by_cases c : E % usualP.e.toNat = 0
  · simp only [if_pos c, compA_eq]
    simp only [core1, fgr, execOp, opd, putT, put, nth, forgetL, extract, getO, List.getElem?_cons_succ, List.getElem?_cons_zero, true_and]
    exact oh
  · simp only [if_neg c]
    simp only [core1, fgr, execOp, opd, putT, put, nth, forgetL, extract, getO, List.getElem?_cons_succ, List.getElem?_cons_zero, true_and]
    exact oh
def fT (j : Nat) : Nat := if j < 4 then 100 * (j + 1) else 0
theorem fT_lt (k : Nat) : fT k < 4294967296 := by unfold fT; split <;> omega
theorem bits_1 : bitsS usualP x0 x0 1 fT (fun _ => lim0) = .tup [.int .u32 545259519, .int .i64 0] := rfl
theorem bits_3 : bitsS usualP x0 x0 3 fT (fun _ => lim0) = .tup [.int .u32 545259519, .int .i64 0] := rfl
theorem bits_4v : compV (scS x0 (kOf usualP (tookOf usualP 4 fT)) usualP.s.toNat x0) = 543162367 := by decide +kernel
theorem bits_4 : bitsS usualP x0 x0 4 fT (fun _ => lim0) = .tup [.int .u32 543162367, .int .i64 0] := by
  unfold bitsS
  rw [if_pos (by decide)]
  unfold compA
  rw [if_neg (by decide +kernel), bits_4v]; rfl
theorem lits {h : Hp} {id m : Nat} (hm : m ≤ 4) {cap : Option Nat} {cs : List AVal} (hr : Row h id cs) (hl : cs.length = m) (hc : ∀ j, j < m → cs[j]? = some (.int .u32 (fT j : Nat))) : Ints .u32 h (.sl id 0 m cap 1) id m (fun j => (fT j : Nat)) := by
  obtain ⟨e, he⟩ := hr
  refine ⟨⟨_, rfl⟩, _, e, he, hl, fun j hj => ?_⟩
  have := hc j hj
  obtain ⟨hj2, hx⟩ := List.getElem?_eq_some_iff.1 this
  rw [Cont.at_l hj2, hx]
set_option maxHeartbeats 4000000 in
theorem f29 (h : Hp) (n : Nat) (hf : Free h n) : Wp (callI env (evalW env) 29 []) h n fun v' h' n' => v' = .bool true ∧ Old h h' n := by
  refine wp_callI ff29 fi29 ?_
  simp (disch := omega) only [fu29, Try.f29, Option.getD_some, List.replicate, core1, tyr, fgr, hkr, execOp, opd, opds, ofValue, ops2, putT, put, nth, forgetL, doCall, callV_func, und, cel, newRow, getO, ended, resultOf, oneOrTup, List.cons_append, List.nil_append, List.append_nil, List.length_cons, List.length_nil, Nat.reduceSub, Nat.beq, Bool.not_false, Bool.and_true, Bool.true_and, Nat.zero_add, Nat.zero_mul, wp_pure, buildSlice, reps, fill, List.take_zero, List.drop_succ_cons, List.drop_zero, Nat.ble, Nat.one_mul, List.length_cons, List.length_nil, Nat.zero_mul]
  refine opv_callf hf.new (f58 1 n _ fT _ _ (by omega) (by omega) (lits (by omega) (Row.new _ _ _ _) rfl (fun j hj => by match j, hj with | 0, _ => rfl)) hf.new) fun v1 h1 n1 hn1 f1 ⟨w1, i1, o1⟩ => ?_
  have oh : Old h h1 n := fun j hj => by rw [o1 j (by omega), upd_ne _ _ (by omega)]
  simp (disch := omega) only [core1, hkr, execOp, opd, opds, putT, put, nth, doCall, callV_func, List.nil_append, List.append_nil]
  refine opv_callf f1 (f57 fT fT_lt 1 v1 h1 n1 (by omega) (by omega) w1 f1) fun v2 h2 n2 hn2 f2 ⟨e2, o2⟩ => ?_
  subst e2
  rw [bits_1]
  have oh : Old h h2 n := fun j hj => (o2 j (by omega)).trans (oh j hj)
  simp (disch := omega) only [core1, tyr, fgr, hkr, execOp, opd, opds, ofValue, ops2, putT, put, nth, forgetL, doCall, callV_func, und, cel, newRow, extract, getO, List.getElem?_cons_succ, List.getElem?_cons_zero, List.cons_append, List.nil_append, List.append_nil, List.length_cons, List.length_nil, Nat.reduceAdd, Nat.beq, Bool.not_false, Bool.and_true, Bool.true_and, Nat.zero_add, Nat.zero_mul, buildSlice, reps, fill, List.take_succ_cons, List.take_zero, List.drop_succ_cons, List.drop_zero, Nat.ble, Nat.mul_one, Nat.one_mul, List.length_cons, List.length_nil, Nat.zero_mul]
  refine opv_callf f2.new (f58 3 n2 _ fT _ _ (by omega) (by omega) (lits (by omega) (Row.new _ _ _ _) rfl (fun j hj => by match j, hj with | 0, _ => rfl | 1, _ => rfl | 2, _ => rfl)) f2.new) fun v3 h3 n3 hn3 f3 ⟨w3, i3, o3⟩ => ?_
  have oh : Old h h3 n := fun j hj => by rw [o3 j (by omega), upd_ne _ _ (by omega)]; exact oh j hj
  simp (disch := omega) only [core1, hkr, execOp, opd, opds, putT, put, nth, doCall, callV_func, List.nil_append, List.append_nil]
  refine opv_callf f3 (f57 fT fT_lt 3 v3 h3 n3 (by omega) (by omega) w3 f3) fun v4 h4 n4 hn4 f4 ⟨e4, o4⟩ => ?_
  subst e4
  rw [bits_3]
  have oh : Old h h4 n := fun j hj => (o4 j (by omega)).trans (oh j hj)
  simp (disch := omega) only [core1, tyr, fgr, hkr, execOp, opd, opds, ofValue, ops2, putT, put, nth, forgetL, doCall, callV_func, und, cel, newRow, extract, getO, List.getElem?_cons_succ, List.getElem?_cons_zero, List.cons_append, List.nil_append, List.append_nil, List.length_cons, List.length_nil, Nat.reduceAdd, Nat.beq, Bool.not_false, Bool.and_true, Bool.true_and, Nat.zero_add, Nat.zero_mul, buildSlice, reps, fill, List.take_succ_cons, List.take_zero, List.drop_succ_cons, List.drop_zero, Nat.ble, Nat.mul_one, Nat.one_mul, List.length_cons, List.length_nil, Nat.zero_mul]
  refine opv_callf f4.new (f58 4 n4 _ fT _ _ (by omega) (by omega) (lits (by omega) (Row.new _ _ _ _) rfl (fun j hj => by match j, hj with | 0, _ => rfl | 1, _ => rfl | 2, _ => rfl | 3, _ => rfl)) f4.new) fun v5 h5 n5 hn5 f5 ⟨w5, i5, o5⟩ => ?_
  have oh : Old h h5 n := fun j hj => by rw [o5 j (by omega), upd_ne _ _ (by omega)]; exact oh j hj
  simp (disch := omega) only [core1, hkr, execOp, opd, opds, putT, put, nth, doCall, callV_func, List.nil_append, List.append_nil]
  refine opv_callf f5 (f57 fT fT_lt 4 v5 h5 n5 (by omega) (by omega) w5 f5) fun v6 h6 n6 hn6 f6 ⟨e6, o6⟩ => ?_
  subst e6
  rw [bits_4]
  have oh : Old h h6 n := fun j hj => (o6 j (by omega)).trans (oh j hj)
  simp only [core1, fgr, execOp, opd, ofValue, putT, put, nth, forgetL, bor, binInt, shiftB, intOp, doPick, branch, extract, getO, List.getElem?_cons_succ, List.getElem?_cons_zero, decide_true, true_and, beq_self_eq_true]
  exact oh
/- How far the compact form of a scaled target may be off, plainly; parameters as arguments; headers that are written. -/
theorem manS_ge {a : Nat} (h0 : a ≠ 0) : 32768 ≤ manS a (szC a) := by
  obtain ⟨h1, h2⟩ := isSz_bsz a
  have hb := bsz_pos h0
  have h3 : 2 ^ (8 * (bsz a - 1)) ≤ a := h2.elim (fun q => by omega) id
  have m1 : 65536 ≤ manS a (bsz a) := by
    unfold manS
    rw [Nat.le_div_iff_mul_le (Nat.two_pow_pos _)]
    have : 2 ^ (8 * bsz a) = 2 ^ (8 * (bsz a - 1)) * 256 := by rw [show 8 * bsz a = 8 * (bsz a - 1) + 8 by omega, Nat.pow_add]
    rw [this]
    have := Nat.mul_le_mul_right (2 ^ 24) h3
    omega
  unfold szC
  split
  · rename_i h
    rw [manS_succ, ← mantV_eq]
    omega
  · omega
theorem szC_low {a : Nat} (h0 : a ≠ 0) (h3 : 3 ≤ szC a) : 32768 * 2 ^ (8 * (szC a - 3)) ≤ a := by
  have h1 := manS_ge h0
  unfold manS at h1
  rw [Nat.le_div_iff_mul_le (Nat.two_pow_pos _)] at h1
  have : 2 ^ (8 * szC a) = 2 ^ (8 * (szC a - 3)) * 2 ^ 24 := by rw [← Nat.pow_add]; congr 1; omega
  rw [this] at h1
  have h2 : 32768 * (2 ^ (8 * (szC a - 3)) * 2 ^ 24) = (32768 * 2 ^ (8 * (szC a - 3))) * 2 ^ 24 := by rw [Nat.mul_assoc]
  rw [h2] at h1
  exact Nat.le_of_mul_le_mul_right h1 (by decide)
/-- Of what is scaled, and compact, what there is left. -/
theorem bounds {t lim K S x : Nat} (ht : t ≠ 0) (hl : lim ≠ 0) (hl2 : lim < b256) (hS : 1 ≤ S) (hK : K ≤ 4 * S) (hx : expV (compV (scS t K S lim)) = some x) (hx1 : x ≤ scS t K S lim) (hx2 : scS t K S lim - x < 2 ^ (8 * (szC (scS t K S lim) - 3))) :
    x ≤ lim ∧ x ≤ 4 * t ∧ (4 ≤ S → S / 4 ≤ K → t ≤ lim → t / 8 ≤ x) := by
  obtain ⟨s1, s2, _, _⟩ := scS_facts (by_ := K) ht hl hS
  refine ⟨by omega, ?_, ?_⟩
  · refine Nat.le_trans hx1 ?_
    have h4 : t * K / S ≤ 4 * t := by
      refine Nat.div_le_of_le_mul ?_
      have := Nat.mul_le_mul_left t hK
      rw [show S * (4 * t) = t * (4 * S) by rw [Nat.mul_left_comm, Nat.mul_comm S t, Nat.mul_left_comm]]
      exact this
    unfold scS
    generalize t * K / S = q at *
    split
    · omega
    · split <;> omega
  · intro h4 hK2 hle
    have h7 : t / 7 ≤ t * K / S := by
      have hq : S ≤ 7 * K := by omega
      rw [Nat.le_div_iff_mul_le (by omega)]
      have a1 : t / 7 * S ≤ t / 7 * (7 * K) := Nat.mul_le_mul_left _ hq
      have a2 : t / 7 * (7 * K) = t / 7 * 7 * K := by rw [Nat.mul_assoc]
      have a3 : t / 7 * 7 * K ≤ t * K := Nat.mul_le_mul_right _ (Nat.div_mul_le_self _ _)
      omega
    have s7 : t / 7 ≤ scS t K S lim := by
      unfold scS
      generalize t * K / S = q at *
      split
      · omega
      · split <;> omega
    generalize scS t K S lim = s at *
    by_cases c : 3 < szC s
    · have low := szC_low s2 (by omega)
      have hD : 256 ≤ 2 ^ (8 * (szC s - 3)) := by
        have : 2 ^ 8 ≤ 2 ^ (8 * (szC s - 3)) := Nat.pow_le_pow_right (by decide) (by omega)
        omega
      generalize 2 ^ (8 * (szC s - 3)) = D at *
      omega
    · have hD : 2 ^ (8 * (szC s - 3)) = 1 := by rw [show szC s - 3 = 0 by omega]
      rw [hD] at hx2
      omega
theorem arg_p {vs : List AVal} (ha : Arg Try.prog 60 vs) : ∃ p : Pa, vs = p.cells ∧ p.L < 4294967296 := by
  have hc : Try.prog.cellsOf 60 = 9 := by kernel_rfl
  have c35 : Try.prog.cellsOf 35 = 1 := by kernel_rfl
  have c3 : Try.prog.cellsOf 3 = 1 := by kernel_rfl
  have c2 : Try.prog.cellsOf 2 = 1 := by kernel_rfl
  obtain ⟨hl, hx⟩ := ha.struct_inv Try.underlying60
  rw [hc] at hl
  match vs, hl with
  | [a, b, c, d, e, f, g, i, j], _ =>
    have h0 : Arg Try.prog 35 (List.take (Try.prog.cellsOf 35) (List.drop 0 [a, b, c, d, e, f, g, i, j])) := hx 0 _ rfl
    have h1 : Arg Try.prog 3 (List.take (Try.prog.cellsOf 3) (List.drop 1 [a, b, c, d, e, f, g, i, j])) := hx 1 _ rfl
    have h2 : Arg Try.prog 2 (List.take (Try.prog.cellsOf 2) (List.drop 2 [a, b, c, d, e, f, g, i, j])) := hx 2 _ rfl
    have h3 : Arg Try.prog 2 (List.take (Try.prog.cellsOf 2) (List.drop 3 [a, b, c, d, e, f, g, i, j])) := hx 3 _ rfl
    have h4 : Arg Try.prog 3 (List.take (Try.prog.cellsOf 3) (List.drop 4 [a, b, c, d, e, f, g, i, j])) := hx 4 _ rfl
    have h5 : Arg Try.prog 3 (List.take (Try.prog.cellsOf 3) (List.drop 5 [a, b, c, d, e, f, g, i, j])) := hx 5 _ rfl
    have h6 : Arg Try.prog 3 (List.take (Try.prog.cellsOf 3) (List.drop 6 [a, b, c, d, e, f, g, i, j])) := hx 6 _ rfl
    have h7 : Arg Try.prog 3 (List.take (Try.prog.cellsOf 3) (List.drop 7 [a, b, c, d, e, f, g, i, j])) := hx 7 _ rfl
    have h8 : Arg Try.prog 35 (List.take (Try.prog.cellsOf 35) (List.drop 8 [a, b, c, d, e, f, g, i, j])) := hx 8 _ rfl
    rw [c35] at h0
    rw [c3] at h1; rw [c2] at h2; rw [c2] at h3; rw [c3] at h4; rw [c3] at h5; rw [c3] at h6; rw [c3] at h7; rw [c35] at h8
    obtain ⟨z0, e0, w0⟩ := h0.int_inv Try.underlying35
    obtain ⟨z1, e1, w1⟩ := h1.int_inv Try.underlying3
    obtain ⟨z2, e2, w2⟩ := h2.int_inv Try.underlying2
    obtain ⟨z3, e3, w3⟩ := h3.int_inv Try.underlying2
    obtain ⟨z4, e4, w4⟩ := h4.int_inv Try.underlying3
    obtain ⟨z5, e5, w5⟩ := h5.int_inv Try.underlying3
    obtain ⟨z6, e6, w6⟩ := h6.int_inv Try.underlying3
    obtain ⟨z7, e7, w7⟩ := h7.int_inv Try.underlying3
    obtain ⟨z8, e8, w8⟩ := h8.int_inv Try.underlying35
    obtain ⟨n0, l0, rfl⟩ := wf_nat32 w0
    obtain ⟨n8, l8, rfl⟩ := wf_nat32 w8
    refine ⟨⟨n0, z1, z2, z3, z4, z5, z6, z7, n8⟩, ?_, l0⟩
    injection e0 with e0; injection e1 with e1; injection e2 with e2; injection e3 with e3; injection e4 with e4; injection e5 with e5; injection e6 with e6; injection e7 with e7; injection e8 with e8
    simp only [Pa.cells, e0, e1, e2, e3, e4, e5, e6, e7, e8]
noncomputable def hdw (e first last parent : Nat) : List AVal := splice (splice (reps hz e) 65 [.int .u32 (first : Nat)]) ((e - 1) * 68) (hdc last parent)
theorem hdw_ok {e first last parent : Nat} (he : 2 ≤ e) (hf : first < 4294967296) (hl : last < 4294967296) (hp : parent < 4294967296) :
    Hds (hdw e first last parent) e (fun k => if k = e - 1 then last else if k = 0 then first else 0) (fun k => if k = e - 1 then parent else 0) := by
  have l0 : (reps hz e).length = e * 68 := by rw [repq_len, hz_len]
  have l1 : (splice (reps hz e) 65 [.int .u32 (first : Nat)]).length = e * 68 := by rw [splice_len (by rw [l0, List.length_singleton]; omega), l0]
  have z65 : hz[65]? = some (.int .u32 0) := by kernel_rfl
  have z66 : hz[66]? = some (.int .u32 0) := by kernel_rfl
  have g0 : ∀ k j, k < e → j < 68 → (reps hz e)[k * 68 + j]? = hz[j]? := fun k j hk hj => by
    have := repq_get hz e k j hk (by rw [hz_len]; exact hj)
    rwa [hz_len] at this
  refine ⟨?_, splice_one (splice_one (reps_one hz_one _) rfl) (hdc_one _ _), fun k hk => ?_, fun k hk => ?_, fun k => by show (if _ then _ else _) < _; split; exact hl; split <;> omega, fun k => by show (if _ then _ else _) < _; split <;> omega⟩
  · unfold hdw
    rw [splice_len (by rw [l1, hdc_len]; omega), l1]
  · unfold hdw
    rw [spq_get (by rw [l1, hdc_len]; omega), hdc_len]
    by_cases c : k = e - 1
    · rw [if_pos (by subst c; omega), if_pos c, show k * 68 + 65 - (e - 1) * 68 = 65 by subst c; omega]
      exact hdc_t _ _
    · rw [if_neg (by omega), if_neg c, spq_get (by rw [l0, List.length_singleton]; omega), List.length_singleton]
      by_cases c2 : k = 0
      · subst c2
        rw [if_pos (by omega), if_pos rfl]; rfl
      · rw [if_neg (by omega), if_neg c2, g0 k 65 hk (by decide)]
        exact z65
  · unfold hdw
    rw [spq_get (by rw [l1, hdc_len]; omega), hdc_len]
    by_cases c : k = e - 1
    · rw [if_pos (by subst c; omega), if_pos c, show k * 68 + 66 - (e - 1) * 68 = 66 by subst c; omega]
      exact hdc_b _ _
    · rw [if_neg (by omega), if_neg c, spq_get (by rw [l0, List.length_singleton]; omega), List.length_singleton, if_neg (by omega), g0 k 66 hk (by decide)]
      exact z66
end Go.Am.Ytmlagocbphoedaa
