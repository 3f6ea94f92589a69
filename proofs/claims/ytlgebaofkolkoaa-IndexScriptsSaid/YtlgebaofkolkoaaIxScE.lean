/- The functions that the statement reaches, gone through. -/
import Derived.Test.YtlgebaofkolkoaaIxScD
set_option linter.unusedSimpArgs false
set_option linter.unusedVariables false
set_option linter.defProp false
set_option maxRecDepth 10000
namespace Go.Am.Ytlgebaofkolkoaa
open Go Go.Am Go.Proofs
theorem loop7_1 (Q : Post0) (ks : List Kf) (v sw : AVal) (x a b : Nat) (z many : Int) (d : List UInt8) (ws : List Ver) (hwl : ws.length ≤ 1000) (v8 v10 p39 p40 p41 : AVal)
    (rW : Rises false ws) (hk : ∀ w ∈ ws, w.script = d ∧ there w z = true) (A : Hp → Nat → Prop) (hA : Stays A) (hAb : ∀ h n, A h n → Bytes h sw d ∧ VL h a b v ws ∧ b ≤ n)
    (hT : ∀ (h : Hp) (n : Nat) (y : AVal) (x0 x1 x11 x14 x15 x16 x17 x18 x19 x20 x27 x42 x67 x71 x100 x107 x108 x109 x110 x148 : AVal), A h n → Free h n → Kont env 7 none Q ks (.exit 2) (x0 :: x1 :: AVal.junk :: AVal.junk :: .bool false :: .bool true :: .ptr x 0 :: .int .i64 z :: v8 :: .int .i64 many :: v10 :: x11 :: sw :: v :: x14 :: x15 :: x16 :: x17 :: x18 :: x19 :: x20 :: AVal.junk :: AVal.junk :: AVal.junk :: AVal.junk :: AVal.junk :: AVal.junk :: x27 :: AVal.junk :: AVal.junk :: AVal.junk :: AVal.junk :: AVal.junk :: AVal.junk :: AVal.junk :: AVal.junk :: AVal.junk :: AVal.junk :: AVal.junk :: p39 :: p40 :: p41 :: x42 :: AVal.junk :: AVal.junk :: AVal.junk :: AVal.junk :: AVal.junk :: AVal.junk :: AVal.junk :: AVal.junk :: AVal.junk :: AVal.junk :: AVal.junk :: AVal.junk :: AVal.junk :: AVal.junk :: AVal.junk :: AVal.junk :: AVal.junk :: AVal.junk :: AVal.junk :: AVal.junk :: AVal.junk :: AVal.junk :: AVal.junk :: AVal.junk :: x67 :: v :: .int .i64 (ws.length : Nat) :: y :: x71 :: AVal.junk :: AVal.junk :: AVal.junk :: AVal.junk :: AVal.junk :: AVal.junk :: AVal.junk :: AVal.junk :: AVal.junk :: AVal.junk :: AVal.junk :: AVal.junk :: AVal.junk :: AVal.junk :: AVal.junk :: AVal.junk :: AVal.junk :: AVal.junk :: AVal.junk :: AVal.junk :: AVal.junk :: AVal.junk :: AVal.junk :: AVal.junk :: AVal.junk :: AVal.junk :: AVal.junk :: AVal.junk :: x100 :: AVal.junk :: AVal.junk :: AVal.junk :: AVal.junk :: AVal.junk :: AVal.junk :: x107 :: x108 :: x109 :: x110 :: AVal.junk :: AVal.junk :: AVal.junk :: AVal.junk :: AVal.junk :: AVal.junk :: AVal.junk :: AVal.junk :: AVal.junk :: AVal.junk :: AVal.junk :: AVal.junk :: AVal.junk :: AVal.junk :: AVal.junk :: AVal.junk :: AVal.junk :: AVal.junk :: AVal.junk :: AVal.junk :: AVal.junk :: AVal.junk :: AVal.junk :: AVal.junk :: AVal.junk :: AVal.junk :: AVal.junk :: AVal.junk :: AVal.junk :: AVal.junk :: AVal.junk :: AVal.junk :: AVal.junk :: AVal.junk :: AVal.junk :: AVal.junk :: AVal.junk :: x148 :: AVal.junk :: AVal.junk :: AVal.junk :: AVal.junk :: AVal.junk :: AVal.junk :: AVal.junk :: AVal.junk :: []) h n) :
    ∀ (m i : Nat) (h : Hp) (n : Nat) (x0 x1 x11 x14 x15 x16 x17 x18 x19 x20 x27 x42 x67 x71 x100 x107 x108 x109 x110 x148 : AVal), i + m = ws.length → A h n → Free h n →
      Run env 7 none Q (.loop lp7_1) ks (x0 :: x1 :: AVal.junk :: AVal.junk :: .bool false :: .bool true :: .ptr x 0 :: .int .i64 z :: v8 :: .int .i64 many :: v10 :: x11 :: sw :: v :: x14 :: x15 :: x16 :: x17 :: x18 :: x19 :: x20 :: AVal.junk :: AVal.junk :: AVal.junk :: AVal.junk :: AVal.junk :: AVal.junk :: x27 :: AVal.junk :: AVal.junk :: AVal.junk :: AVal.junk :: AVal.junk :: AVal.junk :: AVal.junk :: AVal.junk :: AVal.junk :: AVal.junk :: AVal.junk :: p39 :: p40 :: p41 :: x42 :: AVal.junk :: AVal.junk :: AVal.junk :: AVal.junk :: AVal.junk :: AVal.junk :: AVal.junk :: AVal.junk :: AVal.junk :: AVal.junk :: AVal.junk :: AVal.junk :: AVal.junk :: AVal.junk :: AVal.junk :: AVal.junk :: AVal.junk :: AVal.junk :: AVal.junk :: AVal.junk :: AVal.junk :: AVal.junk :: AVal.junk :: AVal.junk :: x67 :: v :: .int .i64 (ws.length : Nat) :: .int .i64 (i : Nat) :: x71 :: AVal.junk :: AVal.junk :: AVal.junk :: AVal.junk :: AVal.junk :: AVal.junk :: AVal.junk :: AVal.junk :: AVal.junk :: AVal.junk :: AVal.junk :: AVal.junk :: AVal.junk :: AVal.junk :: AVal.junk :: AVal.junk :: AVal.junk :: AVal.junk :: AVal.junk :: AVal.junk :: AVal.junk :: AVal.junk :: AVal.junk :: AVal.junk :: AVal.junk :: AVal.junk :: AVal.junk :: AVal.junk :: x100 :: AVal.junk :: AVal.junk :: AVal.junk :: AVal.junk :: AVal.junk :: AVal.junk :: x107 :: x108 :: x109 :: x110 :: AVal.junk :: AVal.junk :: AVal.junk :: AVal.junk :: AVal.junk :: AVal.junk :: AVal.junk :: AVal.junk :: AVal.junk :: AVal.junk :: AVal.junk :: AVal.junk :: AVal.junk :: AVal.junk :: AVal.junk :: AVal.junk :: AVal.junk :: AVal.junk :: AVal.junk :: AVal.junk :: AVal.junk :: AVal.junk :: AVal.junk :: AVal.junk :: AVal.junk :: AVal.junk :: AVal.junk :: AVal.junk :: AVal.junk :: AVal.junk :: AVal.junk :: AVal.junk :: AVal.junk :: AVal.junk :: AVal.junk :: AVal.junk :: AVal.junk :: x148 :: AVal.junk :: AVal.junk :: AVal.junk :: AVal.junk :: AVal.junk :: AVal.junk :: AVal.junk :: AVal.junk :: []) h n := by
  intro m
  induction m with
  | zero =>
    intro i h n x0 x1 x11 x14 x15 x16 x17 x18 x19 x20 x27 x42 x67 x71 x100 x107 x108 x109 x110 x148 hm ha hf
    have : i = ws.length := by omega
    subst this
    rw [run_loop]
    have hcc : ¬ (((ws.length : Nat) : Int) < ((ws.length : Nat) : Int)) := by omega
    simp only [lp7_1, loopsOf, Try.f7, Option.getD_some, core1, fgr, execOp, opd, putT, put, nth, forgetL, bor, binInt, shiftB, intOp, List.append_eq, List.cons_append, List.nil_append, List.append_nil, decide_true, decide_false, List.getD_cons_zero, List.getD_cons_succ, hcc]
    exact hT h n _ _ _ _ _ _ _ _ _ _ _ _ _ _ _ _ _ _ _ _ _ ha hf
  | succ m ih =>
    intro i h n x0 x1 x11 x14 x15 x16 x17 x18 x19 x20 x27 x42 x67 x71 x100 x107 x108 x109 x110 x148 hm ha hf
    have hil : i < ws.length := by omega
    have hcc : (((i : Nat) : Int) < ((ws.length : Nat) : Int)) := by omega
    have w1 : IntKind.i64.wrap (((i : Nat) : Int) + 1) = ((i + 1 : Nat) : Int) := by rw [w64 (by omega) (by omega)]; omega
    have w2 : i ≠ 0 → IntKind.i64.wrap (((i : Nat) : Int) - 1) = ((i - 1 : Nat) : Int) := fun q => by rw [w64 (by omega) (by omega)]; omega
    obtain ⟨bs, hv, hb⟩ := hAb h n ha
    obtain ⟨su, va⟩ := hv.at_ hil
    obtain ⟨hsc, hth⟩ := hk _ (List.getElem_mem hil)
    have hprev : ∀ q : i ≠ 0, cmpV (ws[i - 1]'(by omega)) ws[i] < 0 := fun q => rW.at_ (by omega) hil (by omega)
    generalize ws[i] = w at *
    have kd := va.s.kind
    rw [run_loop]
    simp only [lp7_1, loopsOf, Try.f7, Option.getD_some, core1, fgr, execOp, opd, putT, put, nth, forgetL, bor, binInt, shiftB, intOp, List.append_eq, List.cons_append, List.nil_append, List.append_nil, decide_true, List.getD_cons_zero, List.getD_cons_succ, hcc]
    rw [opv_rd (hv.idx hil)]
    simp only [core1, execOp, opd, putT, put, nth]
    rw [opv_rd (va.all n)]
    simp only [core1, execOp, putT, put]
    rw [opv_alloc ti31 rfl]
    simp only [core1, execOp, opd, putT, put, nth, cel]
    refine opv_hold (v := .agg (vcells w su)) ti31 rfl (vcells_len va.ok.h va.ok.b) (vcells_cell kd.2.1) hf fun H1 r1 p1 f1 => ?_
    replace r1 : Row H1 n (vcells w su) := r1
    have O1 : Old h H1 n := fun j hj => p1 j (by omega)
    have a1 := hA h H1 n (n + 1) (by omega) O1 ha
    obtain ⟨bs1, hv1, hb1⟩ := hAb _ _ a1
    have bw : Bytes H1 su d := by
      rw [← hsc]
      exact va.s.keep fun j q => O1 j (by have := va.sn j q; omega)
    have fin : ∀ (h' : Hp) (n' : Nat), n + 1 ≤ n' → Old H1 h' (n + 1) → Free h' n' → A h' n' := fun h' n' hn ho hf' => hA _ _ _ _ hn ho a1
    simp only [core1, fgr, putT, forgetL]
    refine run_draw.2 ⟨rfl, ?_⟩
    simp only [fe_cons, fev_pure, core1, tyr, execOp, opd, putT, put, nth, und, sizeOf, getO, moved, fieldAddr, List.getElem?_cons_succ, List.getElem?_cons_zero, Nat.zero_add]
    rw [fev_rd (row_script r1 va.ok)]
    simp only [fe_cons, execOp, opd, putT, put, nth, Nat.reduceAdd]
    rw [fev_rd (bw.str_rd t29 t9 t5)]
    simp only [fe_cons, fev_pure, execOp, opd, putT, put, nth, Nat.reduceAdd]
    rw [fev_rd (bs1.str_rd t29 t9 t5)]
    by_cases c0 : i = 0
    · subst c0
      simp only [fe_cons, fe_guard, fego_some, feg_bool, feg_ff, feg_tf, fev_ask, fev_pure, execOp, opd, ofValue, putT, put, nth, bor, binInt, shiftB, intOp, strOp, strK, doPick, branch, List.getElem?_cons_succ, List.getElem?_cons_zero, Nat.reduceAdd, Int.cast_ofNat_Int, Int.reduceLT, gt_iff_lt, decide_true, decide_false, Bool.not_true, beq_self_eq_true]
      rw [fev_rd (row_all r1 va.ok)]
      simp only [fe_guard, fego_some, feg_bool, feg_ff, fev_pure, hkr, execOp, opd, opds, putT, put, nth, doCall, callV_func, List.getElem?_cons_succ, List.getElem?_cons_zero, List.nil_append, List.append_nil, Nat.reduceAdd]
      refine fev_any f1 (f46 w su va.ok z H1 (n + 1) f1) fun v7 h7 n7 rr7 w7 hn7 f7 ⟨e7, o7⟩ => ?_
      subst e7
      simp only [fe_nil, fe_cons, fe_guard, fego_some, feg_bool, feg_ff, fev_ask, fev_pure, core1, fgr, execOp, opd, ofValue, putT, put, nth, forgetL, bor, binInt, shiftB, intOp, wrapI, unOp, doPick, branch, List.getElem?_cons_succ, List.getElem?_cons_zero, Nat.reduceAdd, Int.reduceAdd, decide_true, Bool.not_true, hth]
      refine ⟨(by (try simp (disch := first | assumption | omega) only [fine, List.all_cons, List.all_nil, clash_pl, clash_pr, clash_rr, Bool.not_false, Bool.true_or, Bool.and_true, Bool.true_and]); repeat' (first | rfl | exact (Bool.or_eq_true _ _).mpr (.inr rfl) | refine (Bool.and_eq_true _ _).mpr ⟨?_, ?_⟩)), ?_⟩
      have a7 := hA _ _ _ _ hn7 o7 a1
      exact ih 1 h7 n7 _ _ _ _ _ _ _ _ _ _ _ _ _ _ _ _ _ _ _ _ (by omega) a7 f7
    · have hgt : (0 : Int) < ((i : Nat) : Int) := by omega
      have w2 := w2 c0
      have hil' : i - 1 < ws.length := by omega
      obtain ⟨sp, vp⟩ := hv1.at_ hil'
      have hpr := hprev c0
      have hn0 : ¬ (0 : Int) ≤ cmpV ws[i - 1] w := by omega
      simp only [fe_cons, fe_guard, fego_some, feg_bool, feg_tt, feg_ff, fev_pure, execOp, opd, ofValue, putT, put, nth, bor, binInt, shiftB, intOp, wrapI, strOp, strK, List.getElem?_cons_succ, List.getElem?_cons_zero, Nat.reduceAdd, gt_iff_lt, decide_true, Bool.not_true, beq_self_eq_true, hgt, w2]
      rw [fev_rd (hv1.idx hil')]
      simp only [fe_guard, fego_some, feg_bool, feg_tt, execOp, opd, putT, put, nth, List.getElem?_cons_succ, List.getElem?_cons_zero, Nat.reduceAdd]
      rw [fev_rd (vp.all (n + 1))]
      simp only [fe_guard, fego_some, feg_bool, feg_tt, execOp, opd, putT, put, nth, List.getElem?_cons_succ, List.getElem?_cons_zero, Nat.reduceAdd]
      rw [fev_rd (row_all r1 va.ok)]
      simp only [fe_guard, fego_some, feg_bool, feg_tt, hkr, execOp, opd, opds, putT, put, nth, doCall, callV_func, List.getElem?_cons_succ, List.getElem?_cons_zero, List.nil_append, List.append_nil, Nat.reduceAdd]
      refine fev_any f1 (f45 ws[i - 1] w sp su vp.ok va.ok H1 (n + 1) f1) fun v6 h6 n6 rr6 w6 hn6 f6 ⟨e6, o6⟩ => ?_
      subst e6
      simp only [fe_cons, fe_guard, fego_some, feg_bool, feg_tt, feg_ff, fev_ask, fev_pure, execOp, opd, ofValue, putT, put, nth, bor, binInt, shiftB, intOp, doPick, branch, List.getElem?_cons_succ, List.getElem?_cons_zero, Nat.reduceAdd, ge_iff_le, decide_true, decide_false, hn0]
      rw [fev_rd (row_all (r1.keep (o6 n (by omega))) va.ok)]
      simp only [fe_guard, fego_some, feg_bool, feg_ff, fev_pure, hkr, execOp, opd, opds, putT, put, nth, doCall, callV_func, List.getElem?_cons_succ, List.getElem?_cons_zero, List.nil_append, List.append_nil, Nat.reduceAdd]
      refine fev_any f6 (f46 w su va.ok z h6 n6 f6) fun v7 h7 n7 rr7 w7 hn7 f7 ⟨e7, o7⟩ => ?_
      subst e7
      simp only [fe_nil, fe_cons, fe_guard, fego_some, feg_bool, feg_ff, fev_ask, fev_pure, core1, fgr, execOp, opd, ofValue, putT, put, nth, forgetL, bor, binInt, shiftB, intOp, wrapI, unOp, doPick, branch, List.getElem?_cons_succ, List.getElem?_cons_zero, Nat.reduceAdd, decide_true, Bool.not_true, hth]
      refine ⟨(by (try simp (disch := first | assumption | omega) only [fine, List.all_cons, List.all_nil, clash_pl, clash_pr, clash_rr, Bool.not_false, Bool.true_or, Bool.and_true, Bool.true_and]); repeat' (first | rfl | exact (Bool.or_eq_true _ _).mpr (.inr rfl) | refine (Bool.and_eq_true _ _).mpr ⟨?_, ?_⟩)), ?_⟩
      have a6 := hA _ _ _ _ hn6 o6 a1
      have a7 := hA _ _ _ _ hn7 o7 a6
      simp only [w1]
      exact ih (i + 1) h7 n7 _ _ _ _ _ _ _ _ _ _ _ _ _ _ _ _ _ _ _ _ (by omega) a7 f7
def A7 (x n3 n4 n5 n6 : Nat) (z : Int) (L : List Ver) (v8 v10 : AVal) (ds : List (List UInt8)) (h : Hp) (n : Nat) : Prop :=
  Ixk (fun _ => False) h n x L ∧ VL h n3 n4 v8 (L.filter fun v => there v z) ∧ n4 ≤ n ∧ BL h n5 n6 v10 ds ∧ n6 ≤ n
theorem stays7 (x n3 n4 n5 n6 : Nat) (z : Int) (L : List Ver) (v8 v10 : AVal) (ds : List (List UInt8)) : Stays (A7 x n3 n4 n5 n6 z L v8 v10 ds) := fun h h' n n' hn ho ⟨a, b, c, d, e⟩ =>
  ⟨a.old hn ho, b.old c ho, by omega, d.old e ho, by omega⟩
theorem loop7_0 (Q : Post0) (ks : List Kf) (v8 v10 : AVal) (x n3 n4 n5 n6 : Nat) (z : Int) (L : List Ver) (ds : List (List UInt8)) (hl : L.length ≤ 1000) (T : Told7 L z ds)
    (hT : ∀ (h : Hp) (n : Nat) (y : AVal) (x0 x1 x11 x12 x13 x14 x15 x16 x17 x18 x19 x20 x27 x42 x67 x68 x69 x70 x71 x100 x107 x108 x109 x110 x148 : AVal), A7 x n3 n4 n5 n6 z L v8 v10 ds h n → Free h n → Kont env 7 none Q ks (.exit 0) (x0 :: x1 :: AVal.junk :: AVal.junk :: .bool false :: .bool true :: .ptr x 0 :: .int .i64 z :: v8 :: .int .i64 (total L z ds : Nat) :: v10 :: x11 :: x12 :: x13 :: x14 :: x15 :: x16 :: x17 :: x18 :: x19 :: x20 :: AVal.junk :: AVal.junk :: AVal.junk :: AVal.junk :: AVal.junk :: AVal.junk :: x27 :: AVal.junk :: AVal.junk :: AVal.junk :: AVal.junk :: AVal.junk :: AVal.junk :: AVal.junk :: AVal.junk :: AVal.junk :: AVal.junk :: AVal.junk :: v10 :: .int .i64 (ds.length : Nat) :: y :: x42 :: AVal.junk :: AVal.junk :: AVal.junk :: AVal.junk :: AVal.junk :: AVal.junk :: AVal.junk :: AVal.junk :: AVal.junk :: AVal.junk :: AVal.junk :: AVal.junk :: AVal.junk :: AVal.junk :: AVal.junk :: AVal.junk :: AVal.junk :: AVal.junk :: AVal.junk :: AVal.junk :: AVal.junk :: AVal.junk :: AVal.junk :: AVal.junk :: x67 :: x68 :: x69 :: x70 :: x71 :: AVal.junk :: AVal.junk :: AVal.junk :: AVal.junk :: AVal.junk :: AVal.junk :: AVal.junk :: AVal.junk :: AVal.junk :: AVal.junk :: AVal.junk :: AVal.junk :: AVal.junk :: AVal.junk :: AVal.junk :: AVal.junk :: AVal.junk :: AVal.junk :: AVal.junk :: AVal.junk :: AVal.junk :: AVal.junk :: AVal.junk :: AVal.junk :: AVal.junk :: AVal.junk :: AVal.junk :: AVal.junk :: x100 :: AVal.junk :: AVal.junk :: AVal.junk :: AVal.junk :: AVal.junk :: AVal.junk :: x107 :: x108 :: x109 :: x110 :: AVal.junk :: AVal.junk :: AVal.junk :: AVal.junk :: AVal.junk :: AVal.junk :: AVal.junk :: AVal.junk :: AVal.junk :: AVal.junk :: AVal.junk :: AVal.junk :: AVal.junk :: AVal.junk :: AVal.junk :: AVal.junk :: AVal.junk :: AVal.junk :: AVal.junk :: AVal.junk :: AVal.junk :: AVal.junk :: AVal.junk :: AVal.junk :: AVal.junk :: AVal.junk :: AVal.junk :: AVal.junk :: AVal.junk :: AVal.junk :: AVal.junk :: AVal.junk :: AVal.junk :: AVal.junk :: AVal.junk :: AVal.junk :: AVal.junk :: x148 :: AVal.junk :: AVal.junk :: AVal.junk :: AVal.junk :: AVal.junk :: AVal.junk :: AVal.junk :: AVal.junk :: []) h n) :
    ∀ (m i : Nat) (h : Hp) (n : Nat) (x0 x1 x11 x12 x13 x14 x15 x16 x17 x18 x19 x20 x27 x42 x67 x68 x69 x70 x71 x100 x107 x108 x109 x110 x148 : AVal), i + m = ds.length → A7 x n3 n4 n5 n6 z L v8 v10 ds h n → Free h n →
      Run env 7 none Q (.loop lp7_0) ks (x0 :: x1 :: AVal.junk :: AVal.junk :: .bool false :: .bool true :: .ptr x 0 :: .int .i64 z :: v8 :: .int .i64 (total L z (ds.take i) : Nat) :: v10 :: x11 :: x12 :: x13 :: x14 :: x15 :: x16 :: x17 :: x18 :: x19 :: x20 :: AVal.junk :: AVal.junk :: AVal.junk :: AVal.junk :: AVal.junk :: AVal.junk :: x27 :: AVal.junk :: AVal.junk :: AVal.junk :: AVal.junk :: AVal.junk :: AVal.junk :: AVal.junk :: AVal.junk :: AVal.junk :: AVal.junk :: AVal.junk :: v10 :: .int .i64 (ds.length : Nat) :: .int .i64 (i : Nat) :: x42 :: AVal.junk :: AVal.junk :: AVal.junk :: AVal.junk :: AVal.junk :: AVal.junk :: AVal.junk :: AVal.junk :: AVal.junk :: AVal.junk :: AVal.junk :: AVal.junk :: AVal.junk :: AVal.junk :: AVal.junk :: AVal.junk :: AVal.junk :: AVal.junk :: AVal.junk :: AVal.junk :: AVal.junk :: AVal.junk :: AVal.junk :: AVal.junk :: x67 :: x68 :: x69 :: x70 :: x71 :: AVal.junk :: AVal.junk :: AVal.junk :: AVal.junk :: AVal.junk :: AVal.junk :: AVal.junk :: AVal.junk :: AVal.junk :: AVal.junk :: AVal.junk :: AVal.junk :: AVal.junk :: AVal.junk :: AVal.junk :: AVal.junk :: AVal.junk :: AVal.junk :: AVal.junk :: AVal.junk :: AVal.junk :: AVal.junk :: AVal.junk :: AVal.junk :: AVal.junk :: AVal.junk :: AVal.junk :: AVal.junk :: x100 :: AVal.junk :: AVal.junk :: AVal.junk :: AVal.junk :: AVal.junk :: AVal.junk :: x107 :: x108 :: x109 :: x110 :: AVal.junk :: AVal.junk :: AVal.junk :: AVal.junk :: AVal.junk :: AVal.junk :: AVal.junk :: AVal.junk :: AVal.junk :: AVal.junk :: AVal.junk :: AVal.junk :: AVal.junk :: AVal.junk :: AVal.junk :: AVal.junk :: AVal.junk :: AVal.junk :: AVal.junk :: AVal.junk :: AVal.junk :: AVal.junk :: AVal.junk :: AVal.junk :: AVal.junk :: AVal.junk :: AVal.junk :: AVal.junk :: AVal.junk :: AVal.junk :: AVal.junk :: AVal.junk :: AVal.junk :: AVal.junk :: AVal.junk :: AVal.junk :: AVal.junk :: x148 :: AVal.junk :: AVal.junk :: AVal.junk :: AVal.junk :: AVal.junk :: AVal.junk :: AVal.junk :: AVal.junk :: []) h n := by
  have hdl := T.len
  intro m
  induction m with
  | zero =>
    intro i h n x0 x1 x11 x12 x13 x14 x15 x16 x17 x18 x19 x20 x27 x42 x67 x68 x69 x70 x71 x100 x107 x108 x109 x110 x148 hm ha hf
    have : i = ds.length := by omega
    subst this
    rw [run_loop]
    have hcc : ¬ (((ds.length : Nat) : Int) < ((ds.length : Nat) : Int)) := by omega
    simp only [lp7_0, loopsOf, Try.f7, Option.getD_some, core1, fgr, execOp, opd, putT, put, nth, forgetL, bor, binInt, shiftB, intOp, List.append_eq, List.cons_append, List.nil_append, List.append_nil, decide_true, decide_false, List.getD_cons_zero, hcc, List.take_length]
    exact hT h n _ _ _ _ _ _ _ _ _ _ _ _ _ _ _ _ _ _ _ _ _ _ _ _ _ _ ha hf
  | succ m ih =>
    intro i h n x0 x1 x11 x12 x13 x14 x15 x16 x17 x18 x19 x20 x27 x42 x67 x68 x69 x70 x71 x100 x107 x108 x109 x110 x148 hm ha hf
    have hil : i < ds.length := by omega
    have hcc : (((i : Nat) : Int) < ((ds.length : Nat) : Int)) := by omega
    have w1 : IntKind.i64.wrap (((i : Nat) : Int) + 1) = ((i + 1 : Nat) : Int) := by rw [w64 (by omega) (by omega)]; omega
    have w2 : i ≠ 0 → IntKind.i64.wrap (((i : Nat) : Int) - 1) = ((i - 1 : Nat) : Int) := fun q => by rw [w64 (by omega) (by omega)]; omega
    have ha0 := ha
    obtain ⟨sx, lv, hn4, lb, hn6⟩ := ha0
    obtain ⟨sw, ld, bw, bn⟩ := lb.at_ hil
    have ne := T.some_ _ (List.getElem_mem hil)
    have tot := total_s (L := L) (z := z) hil
    have tle := total_le (L := L) (z := z) (ds := ds) (i + 1)
    have hprev : ∀ q : i ≠ 0, Op.bytesLess (ds[i - 1]'(by omega)) ds[i] = true := fun q => by
      rw [less_cb]
      exact decide_eq_true (List.pairwise_iff_getElem.1 T.up (i - 1) i (by omega) hil (by omega))
    generalize ds[i] = d at *
    have wl : (ofV L d z).length ≤ L.length := List.length_filter_le _ _
    have tle2 : (i + 1) * L.length ≤ 1001 * 1000 := Nat.mul_le_mul (by omega) hl
    have w3 : IntKind.i64.wrap (((total L z (ds.take i) : Nat) : Int) + (((ofV L d z).length : Nat) : Int)) = ((total L z (ds.take (i + 1)) : Nat) : Int) := by rw [w64 (by omega) (by omega)]; omega
    rw [run_loop]
    simp only [lp7_0, loopsOf, Try.f7, Option.getD_some, core1, fgr, execOp, opd, putT, put, nth, forgetL, bor, binInt, shiftB, intOp, List.append_eq, List.cons_append, List.nil_append, List.append_nil, decide_true, List.getD_cons_zero, hcc]
    rw [opv_rd (lb.idx hil)]
    simp only [core1, execOp, opd, putT, put, nth]
    rw [opv_rd (ld n)]
    simp only [core1, fgr, hkr, execOp, opd, opds, putT, put, nth, forgetL, doCall, callV_func, List.nil_append, List.append_nil]
    refine opv_callf hf (f43k sw d z sx bw (fun j q => by have := bn j q; omega) (by omega) hf) fun v2 h2 n2 hn2 f2 ⟨l2, o2⟩ => ?_
    have a2 := stays7 _ _ _ _ _ _ _ _ _ _ _ _ _ _ hn2 o2 ha
    have bw2 : Bytes h2 sw d := bw.keep fun j q => o2 j (by have := bn j q; omega)
    obtain ⟨sx2, lv2, hn42, lb2, hn62⟩ := a2
    have a2 : A7 x n3 n4 n5 n6 z L v8 v10 ds h2 n2 := ⟨sx2, lv2, hn42, lb2, hn62⟩
    have hl0 : ¬ ((((ofV L d z).length : Nat) : Int) = 0) := fun q => ne (List.eq_nil_of_length_eq_zero (by omega))
    have rW : Rises false (ofV L d z) := sx.rL.sublist List.filter_sublist
    simp only [core1, fgr, execOp, opd, putT, put, nth, forgetL]
    refine run_draw.2 ⟨rfl, ?_⟩
    simp only [fe_cons, fe_guard, fego_some, feg_bool, feg_ff, fev_pure, execOp, opd, opds, ofValue, putT, put, nth, doCall, builtin, one1, bor, binInt, shiftB, intOp, List.getElem?_cons_succ, List.getElem?_cons_zero, Nat.reduceAdd, int_beq, gt_iff_lt, decide_true, decide_false, Nat.zero_add, l2.len, hl0]
    have hlen2 : bLen env [43] v2 = M.pure (.int .i64 ((ofV L d z).length : Nat)) := l2.len
    have hkk : ∀ w ∈ ofV L d z, w.script = d ∧ there w z = true := fun w hw => by
      have := (List.mem_filter.1 hw).2
      simpa using this
    have AS : Stays fun h n_ => A7 x n3 n4 n5 n6 z L v8 v10 ds h n_ ∧ Bytes h sw d ∧ VL h n n2 v2 (ofV L d z) ∧ n2 ≤ n_ := fun h h' m m' hm ho ⟨a, b, c, e⟩ =>
      ⟨stays7 _ _ _ _ _ _ _ _ _ _ _ _ _ _ hm ho a, b.keep fun j q => ho j (by have := bn j q; omega), c.old e ho, by omega⟩
    by_cases c0 : i = 0
    · subst c0
      simp only [fe_nil, fe_cons, fe_guard, fego_some, feg_bool, feg_ff, feg_tf, fev_ask, fev_pure, core1, fgr, execOp, opd, opds, ofValue, putT, put, nth, forgetL, doCall, builtin, one1, doPick, branch, List.getElem?_cons_succ, List.getElem?_cons_zero, Nat.reduceAdd, Int.cast_ofNat_Int, Int.reduceLT, decide_false]
      refine ⟨(by (try simp (disch := first | assumption | omega) only [fine, List.all_cons, List.all_nil, clash_pr, Bool.not_false, Bool.true_or, Bool.and_true]); repeat' (first | rfl | exact (Bool.or_eq_true _ _).mpr (.inr rfl) | refine (Bool.and_eq_true _ _).mpr ⟨?_, ?_⟩)), ?_⟩
      simp only [core1, fgr, execOp, opd, ofValue, putT, put, forgetL, hlen2]
      refine loop7_1 _ _ v2 sw x n n2 z ((total L z (ds.take 0) : Nat) : Int) d (ofV L d z) (by omega) v8 v10 v10 (.int .i64 (ds.length : Nat)) (.int .i64 0) rW hkk _ AS (fun h n q => ⟨q.2.1, q.2.2.1, q.2.2.2⟩) ?_ (ofV L d z).length 0 h2 n2 _ _ _ _ _ _ _ _ _ _ _ _ _ _ _ _ _ _ _ _ (by omega) ⟨a2, bw2, l2, Nat.le_refl _⟩ f2
      intro h9 n9 y x0 x1 x11 x14 x15 x16 x17 x18 x19 x20 x27 x42 x67 x71 x100 x107 x108 x109 x110 x148 a9 f9
      simp only [core1, fgr, execOp, opd, opds, ofValue, putT, put, nth, forgetL, doCall, builtin, one1, bor, binInt, shiftB, intOp, wrapI, Int.reduceAdd, decide_true, Nat.zero_add, a9.2.2.1.len, w3]
      exact ih 1 h9 n9 _ _ _ _ _ _ _ _ _ _ _ _ _ _ _ _ _ _ _ _ _ _ _ _ _ (by omega) a9.1 f9
    · have hgt : (0 : Int) < ((i : Nat) : Int) := by omega
      have w2 := w2 c0
      have hil' : i - 1 < ds.length := by omega
      obtain ⟨sp, lp, bp, bpn⟩ := lb2.at_ hil'
      have hlt := hprev c0
      simp only [fe_guard, fego_some, feg_bool, feg_tt, fev_pure, execOp, opd, ofValue, putT, put, nth, bor, binInt, shiftB, intOp, wrapI, List.getElem?_cons_succ, List.getElem?_cons_zero, Nat.reduceAdd, decide_true, hgt, w2]
      rw [fev_rd (lb2.idx hil')]
      simp only [fe_guard, fego_some, feg_bool, feg_tt, execOp, opd, putT, put, nth, List.getElem?_cons_succ, List.getElem?_cons_zero, Nat.reduceAdd]
      rw [fev_rd (lp n2)]
      simp only [fe_guard, fego_some, feg_bool, feg_tt, execOp, opd, putT, put, nth, List.getElem?_cons_succ, List.getElem?_cons_zero, Nat.reduceAdd]
      rw [fev_rd (bp.str_rd t29 t9 t5)]
      simp only [fe_guard, fego_some, feg_bool, feg_tt, fev_pure, execOp, opd, putT, put, nth, List.getElem?_cons_succ, List.getElem?_cons_zero, Nat.reduceAdd]
      rw [fev_rd (bw2.str_rd t29 t9 t5)]
      simp only [fe_nil, fe_cons, fe_guard, fego_some, feg_bool, feg_tt, feg_ff, fev_ask, fev_pure, core1, fgr, execOp, opd, opds, ofValue, putT, put, nth, forgetL, doCall, builtin, one1, bor, strOp, strK, doPick, branch, List.getElem?_cons_succ, List.getElem?_cons_zero, Nat.reduceAdd, Bool.not_true, hlt]
      refine ⟨(by (try simp (disch := first | assumption | omega) only [fine, List.all_cons, List.all_nil, clash_pr, clash_rr, Bool.not_false, Bool.true_or, Bool.and_true]); repeat' (first | rfl | exact (Bool.or_eq_true _ _).mpr (.inr rfl) | refine (Bool.and_eq_true _ _).mpr ⟨?_, ?_⟩)), ?_⟩
      simp only [core1, fgr, execOp, opd, ofValue, putT, put, forgetL, hlen2]
      refine loop7_1 _ _ v2 sw x n n2 z ((total L z (ds.take i) : Nat) : Int) d (ofV L d z) (by omega) v8 v10 v10 (.int .i64 (ds.length : Nat)) (.int .i64 ((i : Nat) : Int)) rW hkk _ AS (fun h n q => ⟨q.2.1, q.2.2.1, q.2.2.2⟩) ?_ (ofV L d z).length 0 h2 n2 _ _ _ _ _ _ _ _ _ _ _ _ _ _ _ _ _ _ _ _ (by omega) ⟨a2, bw2, l2, Nat.le_refl _⟩ f2
      intro h9 n9 y x0 x1 x11 x14 x15 x16 x17 x18 x19 x20 x27 x42 x67 x71 x100 x107 x108 x109 x110 x148 a9 f9
      simp only [core1, fgr, execOp, opd, opds, ofValue, putT, put, nth, forgetL, doCall, builtin, one1, bor, binInt, shiftB, intOp, wrapI, decide_true, a9.2.2.1.len, w3, w1]
      exact ih (i + 1) h9 n9 _ _ _ _ _ _ _ _ _ _ _ _ _ _ _ _ _ _ _ _ _ _ _ _ _ (by omega) a9.1 f9
/- IndexScripts: the law. -/
theorem loop7_2 (Q : Post0) (ks : List Kf) (v : AVal) (x a b : Nat) (z many : Int) (L us : List Ver) (hl : L.length ≤ 1000) (hus : us = L.filter fun v => there v z)
    (hat : ∀ i (hi : i < us.length), (∀ h : i + 1 < us.length, same us[i].hash us[i].pn us[i + 1] = false) → atV L us[i].hash us[i].pn z = some us[i])
    (hso : ∀ i (hi : i < us.length), (atV L us[i].hash us[i].pn z).isSome = true)
    (hT : ∀ (h : Hp) (n : Nat) (y : AVal) (x0 x1 x10 x11 x12 x13 x14 x15 x16 x17 x18 x19 x20 x27 x39 x40 x41 x42 x67 x68 x69 x70 x71 x100 x110 x148 : AVal), VL h a b v us → Free h n → Kont env 7 none Q ks (.exit 4) (x0 :: x1 :: AVal.junk :: AVal.junk :: .bool false :: .bool true :: .ptr x 0 :: .int .i64 z :: v :: .int .i64 many :: x10 :: x11 :: x12 :: x13 :: x14 :: x15 :: x16 :: x17 :: x18 :: x19 :: x20 :: AVal.junk :: AVal.junk :: AVal.junk :: AVal.junk :: AVal.junk :: AVal.junk :: x27 :: AVal.junk :: AVal.junk :: AVal.junk :: AVal.junk :: AVal.junk :: AVal.junk :: AVal.junk :: AVal.junk :: AVal.junk :: AVal.junk :: AVal.junk :: x39 :: x40 :: x41 :: x42 :: AVal.junk :: AVal.junk :: AVal.junk :: AVal.junk :: AVal.junk :: AVal.junk :: AVal.junk :: AVal.junk :: AVal.junk :: AVal.junk :: AVal.junk :: AVal.junk :: AVal.junk :: AVal.junk :: AVal.junk :: AVal.junk :: AVal.junk :: AVal.junk :: AVal.junk :: AVal.junk :: AVal.junk :: AVal.junk :: AVal.junk :: AVal.junk :: x67 :: x68 :: x69 :: x70 :: x71 :: AVal.junk :: AVal.junk :: AVal.junk :: AVal.junk :: AVal.junk :: AVal.junk :: AVal.junk :: AVal.junk :: AVal.junk :: AVal.junk :: AVal.junk :: AVal.junk :: AVal.junk :: AVal.junk :: AVal.junk :: AVal.junk :: AVal.junk :: AVal.junk :: AVal.junk :: AVal.junk :: AVal.junk :: AVal.junk :: AVal.junk :: AVal.junk :: AVal.junk :: AVal.junk :: AVal.junk :: AVal.junk :: x100 :: AVal.junk :: AVal.junk :: AVal.junk :: AVal.junk :: AVal.junk :: AVal.junk :: v :: .int .i64 (us.length : Nat) :: y :: x110 :: AVal.junk :: AVal.junk :: AVal.junk :: AVal.junk :: AVal.junk :: AVal.junk :: AVal.junk :: AVal.junk :: AVal.junk :: AVal.junk :: AVal.junk :: AVal.junk :: AVal.junk :: AVal.junk :: AVal.junk :: AVal.junk :: AVal.junk :: AVal.junk :: AVal.junk :: AVal.junk :: AVal.junk :: AVal.junk :: AVal.junk :: AVal.junk :: AVal.junk :: AVal.junk :: AVal.junk :: AVal.junk :: AVal.junk :: AVal.junk :: AVal.junk :: AVal.junk :: AVal.junk :: AVal.junk :: AVal.junk :: AVal.junk :: AVal.junk :: x148 :: AVal.junk :: AVal.junk :: AVal.junk :: AVal.junk :: AVal.junk :: AVal.junk :: AVal.junk :: AVal.junk :: []) h n) :
    ∀ (m i : Nat) (h : Hp) (n : Nat) (x0 x1 x10 x11 x12 x13 x14 x15 x16 x17 x18 x19 x20 x27 x39 x40 x41 x42 x67 x68 x69 x70 x71 x100 x110 x148 : AVal), i + m = us.length → Ixk (fun _ => False) h n x L → VL h a b v us → b ≤ n → Free h n →
      Run env 7 none Q (.loop lp7_2) ks (x0 :: x1 :: AVal.junk :: AVal.junk :: .bool false :: .bool true :: .ptr x 0 :: .int .i64 z :: v :: .int .i64 many :: x10 :: x11 :: x12 :: x13 :: x14 :: x15 :: x16 :: x17 :: x18 :: x19 :: x20 :: AVal.junk :: AVal.junk :: AVal.junk :: AVal.junk :: AVal.junk :: AVal.junk :: x27 :: AVal.junk :: AVal.junk :: AVal.junk :: AVal.junk :: AVal.junk :: AVal.junk :: AVal.junk :: AVal.junk :: AVal.junk :: AVal.junk :: AVal.junk :: x39 :: x40 :: x41 :: x42 :: AVal.junk :: AVal.junk :: AVal.junk :: AVal.junk :: AVal.junk :: AVal.junk :: AVal.junk :: AVal.junk :: AVal.junk :: AVal.junk :: AVal.junk :: AVal.junk :: AVal.junk :: AVal.junk :: AVal.junk :: AVal.junk :: AVal.junk :: AVal.junk :: AVal.junk :: AVal.junk :: AVal.junk :: AVal.junk :: AVal.junk :: AVal.junk :: x67 :: x68 :: x69 :: x70 :: x71 :: AVal.junk :: AVal.junk :: AVal.junk :: AVal.junk :: AVal.junk :: AVal.junk :: AVal.junk :: AVal.junk :: AVal.junk :: AVal.junk :: AVal.junk :: AVal.junk :: AVal.junk :: AVal.junk :: AVal.junk :: AVal.junk :: AVal.junk :: AVal.junk :: AVal.junk :: AVal.junk :: AVal.junk :: AVal.junk :: AVal.junk :: AVal.junk :: AVal.junk :: AVal.junk :: AVal.junk :: AVal.junk :: x100 :: AVal.junk :: AVal.junk :: AVal.junk :: AVal.junk :: AVal.junk :: AVal.junk :: v :: .int .i64 (us.length : Nat) :: .int .i64 (i : Nat) :: x110 :: AVal.junk :: AVal.junk :: AVal.junk :: AVal.junk :: AVal.junk :: AVal.junk :: AVal.junk :: AVal.junk :: AVal.junk :: AVal.junk :: AVal.junk :: AVal.junk :: AVal.junk :: AVal.junk :: AVal.junk :: AVal.junk :: AVal.junk :: AVal.junk :: AVal.junk :: AVal.junk :: AVal.junk :: AVal.junk :: AVal.junk :: AVal.junk :: AVal.junk :: AVal.junk :: AVal.junk :: AVal.junk :: AVal.junk :: AVal.junk :: AVal.junk :: AVal.junk :: AVal.junk :: AVal.junk :: AVal.junk :: AVal.junk :: AVal.junk :: x148 :: AVal.junk :: AVal.junk :: AVal.junk :: AVal.junk :: AVal.junk :: AVal.junk :: AVal.junk :: AVal.junk :: []) h n := by
  have hul : us.length ≤ L.length := by rw [hus]; exact List.length_filter_le _ _
  intro m
  induction m with
  | zero =>
    intro i h n x0 x1 x10 x11 x12 x13 x14 x15 x16 x17 x18 x19 x20 x27 x39 x40 x41 x42 x67 x68 x69 x70 x71 x100 x110 x148 hm sx hv hb hf
    have : i = us.length := by omega
    subst this
    rw [run_loop]
    have hcc : ¬ (((us.length : Nat) : Int) < ((us.length : Nat) : Int)) := by omega
    simp only [lp7_2, loopsOf, Try.f7, Option.getD_some, core1, fgr, execOp, opd, putT, put, nth, forgetL, bor, binInt, shiftB, intOp, List.append_eq, List.cons_append, List.nil_append, List.append_nil, decide_true, decide_false, List.getD_cons_zero, List.getD_cons_succ, hcc]
    exact hT h n _ _ _ _ _ _ _ _ _ _ _ _ _ _ _ _ _ _ _ _ _ _ _ _ _ _ _ hv hf
  | succ m ih =>
    intro i h n x0 x1 x10 x11 x12 x13 x14 x15 x16 x17 x18 x19 x20 x27 x39 x40 x41 x42 x67 x68 x69 x70 x71 x100 x110 x148 hm sx hv hb hf
    have hil : i < us.length := by omega
    have hcc : (((i : Nat) : Int) < ((us.length : Nat) : Int)) := by omega
    have w1 : IntKind.i64.wrap (((i : Nat) : Int) + 1) = ((i + 1 : Nat) : Int) := by rw [w64 (by omega) (by omega)]; omega
    have w2 : IntKind.i64.wrap (((us.length : Nat) : Int) - 1) = ((us.length - 1 : Nat) : Int) := by rw [w64 (by omega) (by omega)]; omega
    obtain ⟨su, va⟩ := hv.at_ hil
    have ht := hat i hil
    have hs := hso i hil
    have hnext : ∀ q : i + 1 < us.length, binOp env .neq 28 (.agg (pcells us[i + 1].hash us[i + 1].pn)) (.agg (pcells us[i].hash us[i].pn)) = M.pure (.bool (!(same us[i].hash us[i].pn us[i + 1]))) := fun q => by
      obtain ⟨sn, vn⟩ := hv.at_ q
      exact neq28 us[i + 1].hash us[i].hash us[i + 1].pn us[i].pn vn.ok.h va.ok.h
    generalize us[i] = w at *
    have kd := va.s.kind
    rw [run_loop]
    simp only [lp7_2, loopsOf, Try.f7, Option.getD_some, core1, fgr, execOp, opd, putT, put, nth, forgetL, bor, binInt, shiftB, intOp, List.append_eq, List.cons_append, List.nil_append, List.append_nil, decide_true, List.getD_cons_zero, List.getD_cons_succ, hcc]
    rw [opv_rd (hv.idx hil)]
    simp only [core1, execOp, opd, putT, put, nth]
    rw [opv_rd (va.all n)]
    simp only [core1, execOp, putT, put]
    rw [opv_alloc ti31 rfl]
    simp only [core1, execOp, opd, putT, put, nth, cel]
    refine opv_hold (v := .agg (vcells w su)) ti31 rfl (vcells_len va.ok.h va.ok.b) (vcells_cell kd.2.1) hf fun H1 r1 p1 f1 => ?_
    replace r1 : Row H1 n (vcells w su) := r1
    have O1 : Old h H1 n := fun j hj => p1 j (by omega)
    have x1 := sx.old (n' := n + 1) (by omega) O1
    have v1 := hv.old hb O1
    have b1' : Bytes H1 su w.script := va.s.keep fun j q => O1 j (by have := va.sn j q; omega)
    simp only [core1, tyr, fgr, execOp, opd, putT, put, nth, forgetL, und, sizeOf, getO, moved, fieldAddr, List.getElem?_cons_zero, Nat.zero_add]
    rw [opv_rd (row_pt r1 va.ok)]
    simp only [core1, hkr, execOp, opd, opds, putT, put, nth, doCall, callV_func, List.nil_append, List.append_nil]
    refine opv_callf f1 (f37k w.hash w.pn z va.ok.h x1 (by omega) f1) fun v2 h2 n2 hn2 f2 ⟨o2, sA, e2, okA, bA, iA⟩ => ?_
    subst e2
    obtain ⟨oa, hoa⟩ : ∃ oa, oa = atV L w.hash w.pn z := ⟨_, rfl⟩
    rw [← hoa] at okA bA hs ht
    rw [← hoa]
    have x2 := x1.old hn2 o2
    have v2' := v1.old (by omega) o2
    have r2 := r1.keep (o2 n (by omega))
    have b2' : Bytes h2 su w.script := b1'.keep fun j q => o2 j (by have := va.sn j q; omega)
    simp only [core1, execOp, opd, putT, put, nth, extract, getO, List.getElem?_cons_succ, List.getElem?_cons_zero]
    rw [opv_alloc ti31 rfl]
    simp only [core1, execOp, opd, putT, put, nth, cel]
    refine opv_hold (v := .agg (vcells (oa.getD noV) sA)) ti31 rfl (vcells_len okA.h okA.b) (vcells_cell bA.kind.2.1) f2 fun H3 rA p3 f3 => ?_
    replace rA : Row H3 n2 (vcells (oa.getD noV) sA) := rA
    have O3 : Old h2 H3 n2 := fun j hj => p3 j (by omega)
    have x3 := x2.old (n' := n2 + 1) (by omega) O3
    have v3 := v2'.old (by omega) O3
    have r3 := r2.keep (p3 n (by omega))
    have bA3 := bA.keep (h' := H3) fun j q => p3 j (by have := iA j q; omega)
    have b3' : Bytes H3 su w.script := b2'.keep fun j q => O3 j (by have := va.sn j q; omega)
    -- the last one of its outpoint
    have vers : oa = some w → Wp (callI env (evalW env) 42 [.agg (vcells (oa.getD noV) sA), .agg (vcells w su)]) H3 (n2 + 1) fun v' h' n' => v' = .bool true ∧ Old H3 h' (n2 + 1) := fun e => by
      have e2 : oa.getD noV = w := by rw [e]; rfl
      rw [e2] at okA bA3 ⊢
      refine wp_mono (f42 w w sA su okA va.ok H3 (n2 + 1) bA3 b3' (fun j q => by have := iA j q; omega) (fun j q => by have := va.sn j q; omega) f3) fun v' h' n' ⟨e1, o1⟩ => ⟨by rw [e1, eqVr_refl], o1⟩
    have mva := va.mv
    simp only [core1, fgr, execOp, opd, putT, put, nth, forgetL, hs]
    refine run_draw.2 ⟨rfl, ?_⟩
    by_cases c0 : i + 1 = us.length
    · have hlt : (((i : Nat) : Int) = ((us.length - 1 : Nat) : Int)) := by clear ht; omega
      have hno : ¬ i + 1 < us.length := by clear ht; omega
      have e := ht (fun q => absurd q hno)
      simp only [fe_nil, fe_cons, fe_guard, fego_some, feg_bool, feg_ft, fev_ask, fev_pure, core1, fgr, execOp, opd, opds, ofValue, putT, put, nth, forgetL, doCall, builtin, one1, bor, binInt, shiftB, intOp, wrapI, unOp, doPick, branch, List.getElem?_cons_succ, List.getElem?_cons_zero, Nat.reduceAdd, decide_true, Bool.not_true, Nat.zero_add, beq_self_eq_true, v3.len, w2, hlt]
      refine ⟨(by (try simp (disch := first | assumption | omega) only [fine, List.all_cons, List.all_nil, clash_pr, Bool.not_false, Bool.true_or, Bool.and_true]); repeat' (first | rfl | exact (Bool.or_eq_true _ _).mpr (.inr rfl) | refine (Bool.and_eq_true _ _).mpr ⟨?_, ?_⟩)), ?_⟩
      rw [opv_rd (row_all rA okA)]
      simp only [core1, execOp, opd, putT, put, nth, List.getElem?_cons_succ, List.getElem?_cons_zero]
      rw [opv_rd (row_all r3 va.ok)]
      simp only [core1, hkr, execOp, opd, opds, putT, put, nth, doCall, callV_func, List.getElem?_cons_succ, List.getElem?_cons_zero, List.nil_append, List.append_nil]
      refine opv_callf f3 (vers e) fun v4 h4 n4 hn4 f4 ⟨e4, o4⟩ => ?_
      subst e4
      rw [← hlt]
      simp only [core1, fgr, execOp, opd, ofValue, putT, put, nth, forgetL, bor, binInt, shiftB, intOp, wrapI, unOp, doPick, branch, List.getElem?_cons_succ, List.getElem?_cons_zero, decide_true, Bool.not_true, w1]
      exact ih (i + 1) h4 n4 _ _ _ _ _ _ _ _ _ _ _ _ _ _ _ _ _ _ _ _ _ _ _ _ _ _ (by omega) (x3.old hn4 o4) (v3.old (by omega) o4) (by omega) f4
    · have hlt : ¬ (((i : Nat) : Int) = ((us.length - 1 : Nat) : Int)) := by clear ht; omega
      have hin : i + 1 < us.length := by clear ht; omega
      obtain ⟨sn, vn⟩ := v3.at_ hin
      have hn := hnext hin
      have mvn := vn.mv
      simp only [fe_cons, fe_guard, fego_some, feg_bool, feg_ff, fev_pure, execOp, opd, opds, ofValue, putT, put, nth, doCall, builtin, one1, binInt, shiftB, intOp, wrapI, List.getElem?_cons_succ, List.getElem?_cons_zero, Nat.reduceAdd, int_beq, decide_true, decide_false, Nat.zero_add, v3.len, bo_int, w2, hlt, w1]
      rw [fev_rd (v3.idx hin)]
      simp only [fe_guard, fego_some, feg_bool, feg_ff, fev_pure, core1, tyr, execOp, opd, putT, put, nth, und, sizeOf, getO, fieldAddr, List.getElem?_cons_succ, List.getElem?_cons_zero, Nat.reduceAdd, Nat.add_zero, mvn]
      rw [fev_rd (vn.pt (n2 + 1))]
      simp only [fe_guard, fego_some, feg_bool, feg_ff, fev_pure, core1, tyr, execOp, opd, putT, put, nth, und, sizeOf, getO, moved, fieldAddr, List.getElem?_cons_succ, List.getElem?_cons_zero, Nat.reduceAdd, Nat.zero_add]
      rw [fev_rd (row_pt r3 va.ok)]
      simp only [fe_nil, fe_cons, fe_guard, fego_some, feg_bool, feg_ff, fev_ask, fev_pure, core1, fgr, execOp, opd, ofValue, putT, put, nth, forgetL, unOp, doPick, branch, List.getElem?_cons_succ, List.getElem?_cons_zero, Nat.reduceAdd, Bool.not_true, hn]
      cases hsm : same w.hash w.pn us[i + 1] with
      | true =>
        simp only [core1, fgr, execOp, opd, ofValue, putT, put, nth, forgetL, bor, binInt, shiftB, intOp, wrapI, doPick, branch, List.getElem?_cons_succ, List.getElem?_cons_zero, decide_true, Bool.not_true]
        refine ⟨(by (try simp (disch := first | assumption | omega) only [fine, List.all_cons, List.all_nil, clash_pr, clash_rr, Bool.not_false, Bool.true_or, Bool.and_true]); repeat' (first | rfl | exact (Bool.or_eq_true _ _).mpr (.inr rfl) | refine (Bool.and_eq_true _ _).mpr ⟨?_, ?_⟩)), ?_⟩
        simp only [w1]
        exact ih (i + 1) H3 (n2 + 1) _ _ _ _ _ _ _ _ _ _ _ _ _ _ _ _ _ _ _ _ _ _ _ _ _ _ (by omega) x3 v3 (by omega) f3
      | false =>
        have e := ht (fun q => hsm)
        simp only [core1, execOp, opd, nth, Bool.not_false]
        refine ⟨(by (try simp (disch := first | assumption | omega) only [fine, List.all_cons, List.all_nil, clash_pr, clash_rr, Bool.not_false, Bool.true_or, Bool.and_true]); repeat' (first | rfl | exact (Bool.or_eq_true _ _).mpr (.inr rfl) | refine (Bool.and_eq_true _ _).mpr ⟨?_, ?_⟩)), ?_⟩
        rw [opv_rd (row_all rA okA)]
        simp only [core1, execOp, opd, putT, put, nth, List.getElem?_cons_succ, List.getElem?_cons_zero]
        rw [opv_rd (row_all r3 va.ok)]
        simp only [core1, hkr, execOp, opd, opds, putT, put, nth, doCall, callV_func, List.getElem?_cons_succ, List.getElem?_cons_zero, List.nil_append, List.append_nil]
        refine opv_callf f3 (vers e) fun v4 h4 n4 hn4 f4 ⟨e4, o4⟩ => ?_
        subst e4
        simp only [core1, fgr, execOp, opd, ofValue, putT, put, nth, forgetL, bor, binInt, shiftB, intOp, wrapI, unOp, doPick, branch, List.getElem?_cons_succ, List.getElem?_cons_zero, decide_true, Bool.not_true, w1]
        exact ih (i + 1) h4 n4 _ _ _ _ _ _ _ _ _ _ _ _ _ _ _ _ _ _ _ _ _ _ _ _ _ _ (by omega) (x3.old hn4 o4) (v3.old (by omega) o4) (by omega) f4
theorem law7 (v0 : AVal) (hv0 : Arg Try.prog 65 [v0]) (a1 : Int) (w1 : (Lit.int .i8 a1).wf = true) :
    Wp (callI env (evalW env) 7 [v0, .int .i8 a1]) (fun _ => none) 0 fun v _ _ => v = .bool true := by
  obtain ⟨os, xs, ha⟩ := arg_ops hv0
  have hz : -128 ≤ a1 ∧ a1 ≤ 127 := by
    simp only [Lit.wf, Bool.and_eq_true, decide_eq_true_eq] at w1
    exact w1
  have wz : IntKind.i64.wrap a1 = a1 := w64 (by omega) (by omega)
  refine wp_callI ff7 fi7 ?_
  simp only [fu7, Try.f7, Option.getD_some, List.replicate, core1, fgr, hkr, execOp, opd, opds, ofValue, putT, put, forgetL, doCall, callV_func, ended, resultOf, oneOrTup, List.append_eq, List.cons_append, List.nil_append, List.append_nil, List.length_cons, List.length_nil, Nat.reduceAdd, Nat.reduceSub, Nat.zero_add, wp_pure]
  refine opv_callf Free.none (f29 _ _ Free.none) fun v2 h2 n2 hn2 f2 ⟨e2, o2⟩ => ?_
  subst e2
  simp only [core1, fgr, hkr, execOp, opd, opds, putT, put, nth, forgetL, doCall, callV_func, List.nil_append, List.append_nil]
  refine opv_same (f30 v0 os xs h2 n2 ha) ?_
  cases hg : greatI os with
  | true =>
    simp only [core1, fgr, execOp, opd, ofValue, putT, put, nth, forgetL, doPick, branch, List.getElem?_cons_succ, List.getElem?_cons_zero, and_self]
  | false =>
  simp only [core1, fgr, hkr, execOp, opd, opds, ofValue, putT, put, nth, forgetL, doCall, callV_func, unOp, doPick, branch, List.getElem?_cons_succ, List.getElem?_cons_zero, List.nil_append, List.append_nil, Bool.not_true]
  refine opv_callf f2 (f31 v0 os xs h2 n2 ha hg f2) fun v3 h3 n3 hn3 f3 ⟨x, L, e3, hx, s3, S3, o3⟩ => ?_
  subst e3
  have len3 : L.length ≤ 900000 := by have := S3.len; omega
  simp only [core1, tyr, fgr, hkr, execOp, opd, opds, putT, put, nth, forgetL, doCall, callV_func, und, lenOf, wrapI, strK, intK, List.nil_append, List.append_nil, convert, convStr, isU8, wz]
  refine opv_callf f3 (f39k a1 s3 len3 f3) fun v4 h4 n4 hn4 f4 ⟨l4, o4⟩ => ?_
  have s4 := s3.old hn4 o4
  have rL := s4.rL
  have xi := s4
  obtain ⟨⟨D, M, ix, _⟩, gL⟩ := xi
  simp only [core1, fgr, hkr, execOp, opd, opds, ofValue, putT, put, nth, forgetL, doCall, callV_func, List.nil_append, List.append_nil]
  refine opv_callf f4 (f44 x a1 L D M h4 n4 ix (by omega) f4) fun v5 h5 n5 hn5 f5 ⟨S, rS, perm, b5, o5⟩ => ?_
  have T := told7 (z := a1) rS perm
  generalize cmpL (scr a1 S) = ds at *
  have s5 := s4.old hn5 o5
  have l5 := l4.old (Nat.le_refl _) o5
  simp only [core1, fgr, execOp, opd, opds, ofValue, putT, put, nth, forgetL, doCall, builtin, one1, b5.len u81]
  refine loop7_0 _ _ v4 v5 x n3 n4 n4 n5 a1 L ds (by have := S3.len; omega) T ?_ ds.length 0 h5 n5 _ _ _ _ _ _ _ _ _ _ _ _ _ _ _ _ _ _ _ _ _ _ _ _ _ (by omega) ⟨s5.sub fun j q => q.elim, l5, hn5, b5, Nat.le_refl _⟩ f5
  intro h6 n6 y x0 x1 x11 x12 x13 x14 x15 x16 x17 x18 x19 x20 x27 x42 x67 x68 x69 x70 x71 x100 x107 x108 x109 x110 x148 ⟨s6, l6, hn6, b6, hn6'⟩ f6
  have tall := T.all
  obtain ⟨us, hus⟩ : ∃ us, us = L.filter fun v => there v a1 := ⟨_, rfl⟩
  have hat : ∀ i (hi : i < us.length), (∀ h : i + 1 < us.length, same us[i].hash us[i].pn us[i + 1] = false) → atV L us[i].hash us[i].pn a1 = some us[i] := by
    rw [hus]
    exact fun i hi hl => at_last rL hi hl
  have hso : ∀ i (hi : i < us.length), (atV L us[i].hash us[i].pn a1).isSome = true := fun i hi => by
    have hm : us[i] ∈ us := List.getElem_mem hi
    have hall : ∀ w ∈ us, w ∈ L ∧ there w a1 = true := by
      rw [hus]
      exact fun w hw => List.mem_filter.1 hw
    obtain ⟨q1, q2⟩ := hall _ hm
    exact at_some q1 q2
  rw [← hus] at l6 tall
  simp only [core1, fgr, execOp, opd, opds, ofValue, putT, put, nth, forgetL, doCall, builtin, one1, l6.len]
  refine loop7_2 _ _ v4 x n3 n4 a1 _ L us (by have := S3.len; omega) hus hat hso ?_ us.length 0 h6 n6 _ _ _ _ _ _ _ _ _ _ _ _ _ _ _ _ _ _ _ _ _ _ _ _ _ _ (by omega) s6 l6 hn6 f6
  intro h7 n7 y7 x0 x1 x10 x11 x12 x13 x14 x15 x16 x17 x18 x19 x20 x27 x39 x40 x41 x42 x67 x68 x69 x70 x71 x100 x110 x148 l7 f7
  simp only [core1, fgr, execOp, opd, opds, ofValue, putT, put, nth, forgetL, doCall, builtin, one1, bor, binInt, shiftB, intOp, doPick, branch, List.getElem?_cons_succ, List.getElem?_cons_zero, decide_true, and_self, beq_self_eq_true, l7.len, tall]
end Go.Am.Ytlgebaofkolkoaa
