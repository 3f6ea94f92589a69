/- The functions that the statement reaches, gone through. -/
import Derived.Test.YtmoplhbncjicbaaSkCoD
set_option linter.unusedSimpArgs false
set_option linter.unusedVariables false
set_option linter.defProp false
set_option maxRecDepth 10000
namespace Go.Am.Ytmoplhbncjicbaa
open Go Go.Am Go.Proofs
/- By how many elements each operation makes the lists longer: the statement. -/
set_option maxHeartbeats 8000000 in
theorem loop11 (Q : Post0) (ks : List Kf) (p mid : Nat) (v w : AVal) (cs : List UInt8) (hcs : cs.length ≤ 30) (hw : ArgBytes w cs)
    (hq : ∀ (h : Hp) n (x10 x11 x12 x13 x14 x15 x16 x17 x34 x42 x52 x53 x78 x83 x101 x103 x105 x129 : AVal), Kont env 11 none Q ks (.exit 0) (v :: w :: AVal.junk :: AVal.junk :: .bool false :: .bool true :: .ptr p 0 :: .int .i64 0 :: .map mid :: AVal.junk :: x10 :: x11 :: x12 :: x13 :: x14 :: x15 :: x16 :: x17 :: AVal.junk :: AVal.junk :: AVal.junk :: AVal.junk :: AVal.junk :: AVal.junk :: AVal.junk :: AVal.junk :: AVal.junk :: AVal.junk :: AVal.junk :: AVal.junk :: AVal.junk :: AVal.junk :: AVal.junk :: AVal.junk :: x34 :: AVal.junk :: AVal.junk :: AVal.junk :: AVal.junk :: AVal.junk :: AVal.junk :: AVal.junk :: x42 :: AVal.junk :: AVal.junk :: AVal.junk :: AVal.junk :: AVal.junk :: AVal.junk :: AVal.junk :: w :: .int .i64 (cs.length : Nat) :: x52 :: x53 :: AVal.junk :: AVal.junk :: AVal.junk :: AVal.junk :: AVal.junk :: AVal.junk :: AVal.junk :: AVal.junk :: AVal.junk :: AVal.junk :: AVal.junk :: AVal.junk :: AVal.junk :: AVal.junk :: AVal.junk :: AVal.junk :: AVal.junk :: AVal.junk :: AVal.junk :: AVal.junk :: AVal.junk :: AVal.junk :: AVal.junk :: AVal.junk :: x78 :: AVal.junk :: AVal.junk :: AVal.junk :: AVal.junk :: x83 :: AVal.junk :: AVal.junk :: AVal.junk :: AVal.junk :: AVal.junk :: AVal.junk :: AVal.junk :: AVal.junk :: AVal.junk :: AVal.junk :: AVal.junk :: AVal.junk :: AVal.junk :: AVal.junk :: AVal.junk :: AVal.junk :: AVal.junk :: x101 :: AVal.junk :: x103 :: AVal.junk :: x105 :: AVal.junk :: AVal.junk :: AVal.junk :: AVal.junk :: AVal.junk :: AVal.junk :: AVal.junk :: AVal.junk :: AVal.junk :: AVal.junk :: AVal.junk :: AVal.junk :: AVal.junk :: AVal.junk :: AVal.junk :: AVal.junk :: AVal.junk :: AVal.junk :: AVal.junk :: AVal.junk :: AVal.junk :: AVal.junk :: AVal.junk :: x129 :: AVal.junk :: AVal.junk :: []) h n) :
    ∀ (m i : Nat) (ls os : List (List UInt8)) (D M : Nat → Prop) (h : Hp) (n : Nat) (x10 x11 x12 x13 x14 x15 x16 x17 x34 x42 x53 x78 x83 x101 x103 x105 x129 : AVal), i + m = cs.length → Ok ls os → Stk h n D M p ls os → (∀ j, M j → j ≠ mid) → MapAt h mid 0 (grows.map eb) → mid < n → Free h n →
    Run env 11 none Q (.loop lp11_0) ks (v :: w :: AVal.junk :: AVal.junk :: .bool false :: .bool true :: .ptr p 0 :: .int .i64 0 :: .map mid :: AVal.junk :: x10 :: x11 :: x12 :: x13 :: x14 :: x15 :: x16 :: x17 :: AVal.junk :: AVal.junk :: AVal.junk :: AVal.junk :: AVal.junk :: AVal.junk :: AVal.junk :: AVal.junk :: AVal.junk :: AVal.junk :: AVal.junk :: AVal.junk :: AVal.junk :: AVal.junk :: AVal.junk :: AVal.junk :: x34 :: AVal.junk :: AVal.junk :: AVal.junk :: AVal.junk :: AVal.junk :: AVal.junk :: AVal.junk :: x42 :: AVal.junk :: AVal.junk :: AVal.junk :: AVal.junk :: AVal.junk :: AVal.junk :: AVal.junk :: w :: .int .i64 (cs.length : Nat) :: .int .i64 (i : Nat) :: x53 :: AVal.junk :: AVal.junk :: AVal.junk :: AVal.junk :: AVal.junk :: AVal.junk :: AVal.junk :: AVal.junk :: AVal.junk :: AVal.junk :: AVal.junk :: AVal.junk :: AVal.junk :: AVal.junk :: AVal.junk :: AVal.junk :: AVal.junk :: AVal.junk :: AVal.junk :: AVal.junk :: AVal.junk :: AVal.junk :: AVal.junk :: AVal.junk :: x78 :: AVal.junk :: AVal.junk :: AVal.junk :: AVal.junk :: x83 :: AVal.junk :: AVal.junk :: AVal.junk :: AVal.junk :: AVal.junk :: AVal.junk :: AVal.junk :: AVal.junk :: AVal.junk :: AVal.junk :: AVal.junk :: AVal.junk :: AVal.junk :: AVal.junk :: AVal.junk :: AVal.junk :: AVal.junk :: x101 :: AVal.junk :: x103 :: AVal.junk :: x105 :: AVal.junk :: AVal.junk :: AVal.junk :: AVal.junk :: AVal.junk :: AVal.junk :: AVal.junk :: AVal.junk :: AVal.junk :: AVal.junk :: AVal.junk :: AVal.junk :: AVal.junk :: AVal.junk :: AVal.junk :: AVal.junk :: AVal.junk :: AVal.junk :: AVal.junk :: AVal.junk :: AVal.junk :: AVal.junk :: AVal.junk :: x129 :: AVal.junk :: AVal.junk :: []) h n := by
  intro m
  induction m with
  | zero =>
    intro i ls os D M h n x10 x11 x12 x13 x14 x15 x16 x17 x34 x42 x53 x78 x83 x101 x103 x105 x129 hi ok st hM mp hmn hf
    have : i = cs.length := by omega
    subst this
    have hc : ¬ ((cs.length : Nat) : Int) < ((cs.length : Nat) : Int) := by omega
    rw [run_loop]
    simp only [lp11_0, loopsOf, Try.f11, Option.getD_some, core1, fgr, execOp, opd, putT, put, nth, forgetL, bor, binInt, shiftB, intOp, List.append_eq, List.cons_append, List.nil_append, List.append_nil, Int.reduceNeg, decide_true, decide_false, List.getD_cons_zero, hc]
    exact hq h n _ _ _ _ _ _ _ _ _ _ _ _ _ _ _ _ _ _
  | succ m ih =>
    intro i ls os D M h n x10 x11 x12 x13 x14 x15 x16 x17 x34 x42 x53 x78 x83 x101 x103 x105 x129 hi ok st hM mp hmn hf
    have hil : i < cs.length := by omega
    have hc : ((i : Nat) : Int) < ((cs.length : Nat) : Int) := by omega
    have hwr : IntKind.i64.wrap (((i : Nat) : Int) + 1) = ((i + 1 : Nat) : Int) := by rw [w64 (by omega) (by omega)]; omega
    have hwh := hw.bytes h
    have hget : (cs.map u8)[i]? = some (.int .u8 ((cs[i].toNat : Nat) : Int)) := by rw [List.getElem?_map, List.getElem?_eq_getElem hil]; rfl
    have okn := ok.n
    rw [run_loop]
    simp only [lp11_0, loopsOf, Try.f11, Option.getD_some, core1, fgr, execOp, opd, putT, put, nth, forgetL, bor, binInt, shiftB, intOp, List.append_eq, List.cons_append, List.nil_append, List.append_nil, Int.reduceNeg, decide_true, List.getD_cons_zero, hc]
    rw [opv_rd (hwh.rds.idx (j := i) t22 s5 rfl hil)]
    simp only [core1, execOp, opd, putT, put, nth, Int.reduceNeg, Nat.mul_one]
    rw [opv_rd (hwh.rds.load (k := i) ti5 rfl hget)]
    simp only [core1, fgr, hkr, execOp, opd, opds, putT, put, nth, forgetL, doCall, callV_func, List.nil_append, List.append_nil, Int.reduceNeg]
    generalize ((cs[i].toNat : Nat) : Int) = c at *
    refine opv_callf hf (f42 p ls os D M h n st hf) fun v1 h1 n1 hn1 f1 ⟨e1, o1⟩ => ?_
    subst e1
    have st1 := st.old hn1 o1
    simp only [core1, hkr, execOp, opd, opds, putT, put, nth, doCall, callV_func, List.nil_append, List.append_nil, Int.reduceNeg]
    refine opv_callf f1 (f41 p ls os D M h1 n1 st1 (by omega) (fun l hl => by have := ok.o l hl; omega) f1) fun v2 h2 n2 hn2 f2 ⟨ys2, D2, l2, _, _, _, _, o2⟩ => ?_
    have st2 := st1.old hn2 o2
    simp only [core1, fgr, hkr, execOp, opd, opds, ofValue, putT, put, nth, forgetL, doCall, callV_func, builtin, one1, List.nil_append, List.append_nil, Int.reduceNeg, l2.rds.bLen u53]
    refine opv_callf f2 (f43 p 0 ls os D M h2 n2 st2 (by omega) (fun l hl => by have := ok.l l hl; omega) f2) fun v3 h3 n3 hn3 f3 ⟨s, e3, b3, i3, o3⟩ => ?_
    subst e3
    have st3 := st2.old hn3 o3
    have mp3 : MapAt h3 mid 0 (grows.map eb) := mp.keep (by rw [o3 mid (by omega), o2 mid (by omega), o1 mid hmn])
    simp only [core1, fgr, execOp, opd, putT, put, nth, forgetL, extract, getO, List.getElem?_cons_succ, List.getElem?_cons_zero, Int.reduceNeg]
    rw [opv_rd (map_get mp3 c)]
    simp only [core1, fgr, execOp, opd, ofValue, putT, put, nth, forgetL, bor, binInt, shiftB, intOp, List.getElem?_cons_succ, List.getElem?_cons_zero, int_beq, Int.reduceNeg, decide_true]
    have hlen0 : (topL ls 0).length < 1000000 := by have := top_ok ok.l 0; omega
    by_cases e115 : c = 115
    · subst e115
      by_cases ht : topE ls 0 = 0
      · have hne : ls ≠ [] := fun q => by rw [q] at ht; exact absurd ht (by decide)
        simp only [core1, hkr, execOp, opd, opds, ofValue, putT, put, nth, doCall, callV_func, bor, binInt, shiftB, intOp, doPick, branch, List.getElem?_cons_succ, List.getElem?_cons_zero, List.nil_append, List.append_nil, Int.reduceNeg, decide_true, beq_self_eq_true, ht]
        refine opv_same (f19 s (topL ls 0) h3 n3 b3 hlen0) ?_
        cases htv : tv (topL ls 0) with
        | true =>
          simp only [core1, fgr, hkr, execOp, opd, opds, ofValue, putT, put, nth, forgetL, doCall, callV_func, doPick, branch, List.nil_append, List.append_nil, Int.reduceNeg]
          refine opv_callf f3 (f38 p 115 ls os D M h3 n3 st3 (by omega) (by omega) (fun l hl => by have := ok.l l hl; omega) f3) fun v4 h4 n4 hn4 f4 ⟨e4, D', M', st4, c4⟩ => ?_
          subst e4
          have mp4 : MapAt h4 mid 0 (grows.map eb) := mp3.keep (c4.old mid (by omega) (fun q => hM mid q rfl))
          have hM4 : ∀ j, M' j → j ≠ mid := fun j hj => (c4.m' j hj).elim (hM j) (fun q => by omega)
          have ok4 := all_ok (c := 115) ok
          have okn4 := ok4.n
          by_cases he : allE 115 ls os = 0
          case neg =>
            obtain ⟨k1, k2⟩ := err_keeps he
            rw [k1, k2] at st4 ok4
            simp only [core1, fgr, hkr, execOp, opd, opds, ofValue, putT, put, nth, forgetL, doCall, callV_func, bor, binInt, shiftB, intOp, List.nil_append, List.append_nil, int_bne, Int.reduceNeg, not_false_eq_true, decide_true, he]
            refine opv_callf f4 (f42 p _ _ D' M' h4 n4 st4 f4) fun v5 h5 n5 hn5 f5 ⟨e5, o5⟩ => ?_
            subst e5
            have st5 := st4.old hn5 o5
            simp only [core1, hkr, execOp, opd, opds, putT, put, nth, doCall, callV_func, bor, binInt, shiftB, intOp, List.getElem?_cons_succ, List.getElem?_cons_zero, List.nil_append, List.append_nil, Int.reduceNeg, decide_true, bne_self_eq_false]
            refine opv_callf f5 (f41 p _ _ D' M' h5 n5 st5 (by omega) (fun l hl => by have := ok4.o l hl; omega) f5) fun v6 h6 n6 hn6 f6 ⟨ys6, D6, l6, _, _, _, _, o6⟩ => ?_
            have st6 := st5.old hn6 o6
            have fin : ∀ (x10 x11 x12 x13 x14 x15 x16 x17 x34 x42 x53 x78 x83 x101 x103 x105 x129 : AVal), Run env 11 none Q (.loop lp11_0) ks (v :: w :: AVal.junk :: AVal.junk :: .bool false :: .bool true :: .ptr p 0 :: .int .i64 0 :: .map mid :: AVal.junk :: x10 :: x11 :: x12 :: x13 :: x14 :: x15 :: x16 :: x17 :: AVal.junk :: AVal.junk :: AVal.junk :: AVal.junk :: AVal.junk :: AVal.junk :: AVal.junk :: AVal.junk :: AVal.junk :: AVal.junk :: AVal.junk :: AVal.junk :: AVal.junk :: AVal.junk :: AVal.junk :: AVal.junk :: x34 :: AVal.junk :: AVal.junk :: AVal.junk :: AVal.junk :: AVal.junk :: AVal.junk :: AVal.junk :: x42 :: AVal.junk :: AVal.junk :: AVal.junk :: AVal.junk :: AVal.junk :: AVal.junk :: AVal.junk :: w :: .int .i64 (cs.length : Nat) :: .int .i64 ((i + 1 : Nat) : Int) :: x53 :: AVal.junk :: AVal.junk :: AVal.junk :: AVal.junk :: AVal.junk :: AVal.junk :: AVal.junk :: AVal.junk :: AVal.junk :: AVal.junk :: AVal.junk :: AVal.junk :: AVal.junk :: AVal.junk :: AVal.junk :: AVal.junk :: AVal.junk :: AVal.junk :: AVal.junk :: AVal.junk :: AVal.junk :: AVal.junk :: AVal.junk :: AVal.junk :: x78 :: AVal.junk :: AVal.junk :: AVal.junk :: AVal.junk :: x83 :: AVal.junk :: AVal.junk :: AVal.junk :: AVal.junk :: AVal.junk :: AVal.junk :: AVal.junk :: AVal.junk :: AVal.junk :: AVal.junk :: AVal.junk :: AVal.junk :: AVal.junk :: AVal.junk :: AVal.junk :: AVal.junk :: AVal.junk :: x101 :: AVal.junk :: x103 :: AVal.junk :: x105 :: AVal.junk :: AVal.junk :: AVal.junk :: AVal.junk :: AVal.junk :: AVal.junk :: AVal.junk :: AVal.junk :: AVal.junk :: AVal.junk :: AVal.junk :: AVal.junk :: AVal.junk :: AVal.junk :: AVal.junk :: AVal.junk :: AVal.junk :: AVal.junk :: AVal.junk :: AVal.junk :: AVal.junk :: AVal.junk :: AVal.junk :: x129 :: AVal.junk :: AVal.junk :: []) h6 n6 := fun x10 x11 x12 x13 x14 x15 x16 x17 x34 x42 x53 x78 x83 x101 x103 x105 x129 => ih (i + 1) _ _ D' M' h6 n6 _ _ _ _ _ _ _ _ _ _ _ _ _ _ _ _ _ (by omega) ok4 st6 hM4 (mp4.keep (by rw [o6 mid (by omega), o5 mid (by omega)])) (by omega) f6
            by_cases hl : leastV 115 < 0
            · have h2 : allE 115 ls os = 2 := err2.2 hl
              have hl' : ¬ 0 ≤ leastV 115 := by omega
              simp only [core1, tyr, fgr, hkr, execOp, opd, opds, ofValue, putT, put, nth, forgetL, doCall, callV_func, builtin, one1, und, bor, binInt, binOther, shiftB, intOp, wrapI, strK, aggK, doPick, branch, equalTop, equal, nilFn, nilPtr, boolOf, List.getElem?_cons_succ, List.getElem?_cons_zero, List.nil_append, List.append_nil, Int.reduceNeg, decide_true, decide_false, beq_self_eq_true, bne_self_eq_false, l6.rds.bLen u53, c44, h2, hl', hwr, show (false == true) = false from rfl]
              exact fin _ _ _ _ _ _ _ _ _ _ _ _ _ _ _ _ _
            · have h2 : ¬ allE 115 ls os = 2 := fun q => hl (err2.1 q)
              have hl' : 0 ≤ leastV 115 := by omega
              simp only [core1, tyr, fgr, hkr, execOp, opd, opds, ofValue, putT, put, nth, forgetL, doCall, callV_func, builtin, one1, und, bor, binInt, binOther, shiftB, intOp, wrapI, strK, aggK, doPick, branch, equalTop, equal, nilFn, nilPtr, boolOf, List.getElem?_cons_succ, List.getElem?_cons_zero, List.nil_append, List.append_nil, int_beq, Int.reduceNeg, decide_true, decide_false, bne_self_eq_false, l6.rds.bLen u53, c44, h2, hl', hwr, show (true == false) = false from rfl]
              exact fin _ _ _ _ _ _ _ _ _ _ _ _ _ _ _ _ _
          obtain ⟨n1', n2', n3'⟩ := counts he
          have hby : byV 115 ls = 1 := by unfold byV; rw [if_pos ⟨rfl, hne, htv⟩]
          have w3 : IntKind.i64.wrap ((((allL 115 ls os).length : Nat) : Int) + (((allO 115 ls os).length : Nat) : Int)) = (((allL 115 ls os).length + (allO 115 ls os).length : Nat) : Int) := by rw [w64 (by omega) (by omega)]; omega
          have q3 : ¬ 100 < (((allL 115 ls os).length + (allO 115 ls os).length : Nat) : Int) := by omega
          have bX : -2 ≤ 1 ∧ 1 ≤ 3 := by have := byV_r 115 ls; omega
          have hmv : movV 115 = 0 := rfl
          simp only [core1, fgr, hkr, execOp, opd, opds, ofValue, putT, put, nth, forgetL, doCall, callV_func, bor, binInt, shiftB, intOp, List.nil_append, List.append_nil, int_beq, Int.reduceEq, Int.reduceNeg, decide_true, decide_false, bne_self_eq_false, he]
          have w1 : IntKind.i64.wrap (((ls.length : Nat) : Int) + 1) = (((allL 115 ls os).length : Nat) : Int) := by rw [w64 (by omega) (by omega)]; omega
          have w2 : IntKind.i64.wrap (((os.length : Nat) : Int) + 0) = (((allO 115 ls os).length : Nat) : Int) := by rw [w64 (by omega) (by omega)]; omega
          refine opv_callf f4 (f42 p _ _ D' M' h4 n4 st4 f4) fun v5 h5 n5 hn5 f5 ⟨e5, o5⟩ => ?_
          subst e5
          have st5 := st4.old hn5 o5
          simp only [core1, hkr, execOp, opd, opds, putT, put, nth, doCall, callV_func, bor, binInt, shiftB, intOp, wrapI, List.getElem?_cons_succ, List.getElem?_cons_zero, List.nil_append, List.append_nil, Int.reduceNeg, decide_true, bne_self_eq_false, w1]
          refine opv_callf f5 (f41 p _ _ D' M' h5 n5 st5 (by omega) (fun l hl => by have := ok4.o l hl; omega) f5) fun v6 h6 n6 hn6 f6 ⟨ys6, D6, l6, _, _, _, _, o6⟩ => ?_
          have st6 := st5.old hn6 o6
          simp only [core1, hkr, execOp, opd, opds, ofValue, putT, put, nth, doCall, callV_func, builtin, one1, bor, binInt, shiftB, intOp, wrapI, doPick, branch, List.getElem?_cons_succ, List.getElem?_cons_zero, List.nil_append, List.append_nil, Int.reduceNeg, decide_true, bne_self_eq_false, l6.rds.bLen u53, w2]
          refine opv_callf f6 (f42 p _ _ D' M' h6 n6 st6 f6) fun v7 h7 n7 hn7 f7 ⟨e7, o7⟩ => ?_
          subst e7
          have st7 := st6.old hn7 o7
          simp only [core1, hkr, execOp, opd, opds, putT, put, nth, doCall, callV_func, List.getElem?_cons_succ, List.getElem?_cons_zero, List.nil_append, List.append_nil, Int.reduceNeg]
          refine opv_callf f7 (f41 p _ _ D' M' h7 n7 st7 (by omega) (fun l hl => by have := ok4.o l hl; omega) f7) fun v8 h8 n8 hn8 f8 ⟨ys8, D8, l8, _, _, _, _, o8⟩ => ?_
          have st8 := st7.old hn8 o8
          simp only [core1, fgr, execOp, opd, opds, ofValue, putT, put, nth, forgetL, doCall, builtin, one1, bor, binInt, shiftB, intOp, wrapI, doPick, branch, List.getElem?_cons_succ, List.getElem?_cons_zero, Int.reduceNeg, gt_iff_lt, decide_true, decide_false, l8.rds.bLen u53, w3, q3, hwr]
          exact ih (i + 1) _ _ D' M' h8 n8 _ _ _ _ _ _ _ _ _ _ _ _ _ _ _ _ _ (by omega) ok4 st8 hM4 (mp4.keep (by rw [o8 mid (by omega), o7 mid (by omega), o6 mid (by omega), o5 mid (by omega)])) (by omega) f8
        | false =>
          simp only [core1, fgr, hkr, execOp, opd, opds, ofValue, putT, put, nth, forgetL, doCall, callV_func, doPick, branch, List.nil_append, List.append_nil, Int.reduceNeg]
          refine opv_callf f3 (f38 p 115 ls os D M h3 n3 st3 (by omega) (by omega) (fun l hl => by have := ok.l l hl; omega) f3) fun v4 h4 n4 hn4 f4 ⟨e4, D', M', st4, c4⟩ => ?_
          subst e4
          have mp4 : MapAt h4 mid 0 (grows.map eb) := mp3.keep (c4.old mid (by omega) (fun q => hM mid q rfl))
          have hM4 : ∀ j, M' j → j ≠ mid := fun j hj => (c4.m' j hj).elim (hM j) (fun q => by omega)
          have ok4 := all_ok (c := 115) ok
          have okn4 := ok4.n
          by_cases he : allE 115 ls os = 0
          case neg =>
            obtain ⟨k1, k2⟩ := err_keeps he
            rw [k1, k2] at st4 ok4
            simp only [core1, fgr, hkr, execOp, opd, opds, ofValue, putT, put, nth, forgetL, doCall, callV_func, bor, binInt, shiftB, intOp, List.nil_append, List.append_nil, int_bne, Int.reduceNeg, not_false_eq_true, decide_true, he]
            refine opv_callf f4 (f42 p _ _ D' M' h4 n4 st4 f4) fun v5 h5 n5 hn5 f5 ⟨e5, o5⟩ => ?_
            subst e5
            have st5 := st4.old hn5 o5
            simp only [core1, hkr, execOp, opd, opds, putT, put, nth, doCall, callV_func, bor, binInt, shiftB, intOp, List.getElem?_cons_succ, List.getElem?_cons_zero, List.nil_append, List.append_nil, Int.reduceNeg, decide_true, bne_self_eq_false]
            refine opv_callf f5 (f41 p _ _ D' M' h5 n5 st5 (by omega) (fun l hl => by have := ok4.o l hl; omega) f5) fun v6 h6 n6 hn6 f6 ⟨ys6, D6, l6, _, _, _, _, o6⟩ => ?_
            have st6 := st5.old hn6 o6
            have fin : ∀ (x10 x11 x12 x13 x14 x15 x16 x17 x34 x42 x53 x78 x83 x101 x103 x105 x129 : AVal), Run env 11 none Q (.loop lp11_0) ks (v :: w :: AVal.junk :: AVal.junk :: .bool false :: .bool true :: .ptr p 0 :: .int .i64 0 :: .map mid :: AVal.junk :: x10 :: x11 :: x12 :: x13 :: x14 :: x15 :: x16 :: x17 :: AVal.junk :: AVal.junk :: AVal.junk :: AVal.junk :: AVal.junk :: AVal.junk :: AVal.junk :: AVal.junk :: AVal.junk :: AVal.junk :: AVal.junk :: AVal.junk :: AVal.junk :: AVal.junk :: AVal.junk :: AVal.junk :: x34 :: AVal.junk :: AVal.junk :: AVal.junk :: AVal.junk :: AVal.junk :: AVal.junk :: AVal.junk :: x42 :: AVal.junk :: AVal.junk :: AVal.junk :: AVal.junk :: AVal.junk :: AVal.junk :: AVal.junk :: w :: .int .i64 (cs.length : Nat) :: .int .i64 ((i + 1 : Nat) : Int) :: x53 :: AVal.junk :: AVal.junk :: AVal.junk :: AVal.junk :: AVal.junk :: AVal.junk :: AVal.junk :: AVal.junk :: AVal.junk :: AVal.junk :: AVal.junk :: AVal.junk :: AVal.junk :: AVal.junk :: AVal.junk :: AVal.junk :: AVal.junk :: AVal.junk :: AVal.junk :: AVal.junk :: AVal.junk :: AVal.junk :: AVal.junk :: AVal.junk :: x78 :: AVal.junk :: AVal.junk :: AVal.junk :: AVal.junk :: x83 :: AVal.junk :: AVal.junk :: AVal.junk :: AVal.junk :: AVal.junk :: AVal.junk :: AVal.junk :: AVal.junk :: AVal.junk :: AVal.junk :: AVal.junk :: AVal.junk :: AVal.junk :: AVal.junk :: AVal.junk :: AVal.junk :: AVal.junk :: x101 :: AVal.junk :: x103 :: AVal.junk :: x105 :: AVal.junk :: AVal.junk :: AVal.junk :: AVal.junk :: AVal.junk :: AVal.junk :: AVal.junk :: AVal.junk :: AVal.junk :: AVal.junk :: AVal.junk :: AVal.junk :: AVal.junk :: AVal.junk :: AVal.junk :: AVal.junk :: AVal.junk :: AVal.junk :: AVal.junk :: AVal.junk :: AVal.junk :: AVal.junk :: AVal.junk :: x129 :: AVal.junk :: AVal.junk :: []) h6 n6 := fun x10 x11 x12 x13 x14 x15 x16 x17 x34 x42 x53 x78 x83 x101 x103 x105 x129 => ih (i + 1) _ _ D' M' h6 n6 _ _ _ _ _ _ _ _ _ _ _ _ _ _ _ _ _ (by omega) ok4 st6 hM4 (mp4.keep (by rw [o6 mid (by omega), o5 mid (by omega)])) (by omega) f6
            by_cases hl : leastV 115 < 0
            · have h2 : allE 115 ls os = 2 := err2.2 hl
              have hl' : ¬ 0 ≤ leastV 115 := by omega
              simp only [core1, tyr, fgr, hkr, execOp, opd, opds, ofValue, putT, put, nth, forgetL, doCall, callV_func, builtin, one1, und, bor, binInt, binOther, shiftB, intOp, wrapI, strK, aggK, doPick, branch, equalTop, equal, nilFn, nilPtr, boolOf, List.getElem?_cons_succ, List.getElem?_cons_zero, List.nil_append, List.append_nil, Int.reduceNeg, decide_true, decide_false, beq_self_eq_true, bne_self_eq_false, l6.rds.bLen u53, c44, h2, hl', hwr, show (false == true) = false from rfl]
              exact fin _ _ _ _ _ _ _ _ _ _ _ _ _ _ _ _ _
            · have h2 : ¬ allE 115 ls os = 2 := fun q => hl (err2.1 q)
              have hl' : 0 ≤ leastV 115 := by omega
              simp only [core1, tyr, fgr, hkr, execOp, opd, opds, ofValue, putT, put, nth, forgetL, doCall, callV_func, builtin, one1, und, bor, binInt, binOther, shiftB, intOp, wrapI, strK, aggK, doPick, branch, equalTop, equal, nilFn, nilPtr, boolOf, List.getElem?_cons_succ, List.getElem?_cons_zero, List.nil_append, List.append_nil, int_beq, Int.reduceNeg, decide_true, decide_false, bne_self_eq_false, l6.rds.bLen u53, c44, h2, hl', hwr, show (true == false) = false from rfl]
              exact fin _ _ _ _ _ _ _ _ _ _ _ _ _ _ _ _ _
          obtain ⟨n1', n2', n3'⟩ := counts he
          have hby : byV 115 ls = getC 115 grows := by unfold byV; rw [if_neg (fun q => by have := q.2.2; unfold top at this; rw [htv] at this; cases this)]
          have w3 : IntKind.i64.wrap ((((allL 115 ls os).length : Nat) : Int) + (((allO 115 ls os).length : Nat) : Int)) = (((allL 115 ls os).length + (allO 115 ls os).length : Nat) : Int) := by rw [w64 (by omega) (by omega)]; omega
          have q3 : ¬ 100 < (((allL 115 ls os).length + (allO 115 ls os).length : Nat) : Int) := by omega
          have bX : -2 ≤ getC 115 grows ∧ getC 115 grows ≤ 3 := by have := byV_r 115 ls; omega
          have hmv : movV 115 = 0 := rfl
          simp only [core1, fgr, hkr, execOp, opd, opds, ofValue, putT, put, nth, forgetL, doCall, callV_func, bor, binInt, shiftB, intOp, List.nil_append, List.append_nil, int_beq, Int.reduceEq, Int.reduceNeg, decide_true, decide_false, bne_self_eq_false, he]
          have w1 : IntKind.i64.wrap (((ls.length : Nat) : Int) + getC 115 grows) = (((allL 115 ls os).length : Nat) : Int) := by rw [w64 (by omega) (by omega)]; omega
          have w2 : IntKind.i64.wrap (((os.length : Nat) : Int) + 0) = (((allO 115 ls os).length : Nat) : Int) := by rw [w64 (by omega) (by omega)]; omega
          refine opv_callf f4 (f42 p _ _ D' M' h4 n4 st4 f4) fun v5 h5 n5 hn5 f5 ⟨e5, o5⟩ => ?_
          subst e5
          have st5 := st4.old hn5 o5
          simp only [core1, hkr, execOp, opd, opds, putT, put, nth, doCall, callV_func, bor, binInt, shiftB, intOp, wrapI, List.getElem?_cons_succ, List.getElem?_cons_zero, List.nil_append, List.append_nil, Int.reduceNeg, decide_true, bne_self_eq_false, w1]
          refine opv_callf f5 (f41 p _ _ D' M' h5 n5 st5 (by omega) (fun l hl => by have := ok4.o l hl; omega) f5) fun v6 h6 n6 hn6 f6 ⟨ys6, D6, l6, _, _, _, _, o6⟩ => ?_
          have st6 := st5.old hn6 o6
          simp only [core1, hkr, execOp, opd, opds, ofValue, putT, put, nth, doCall, callV_func, builtin, one1, bor, binInt, shiftB, intOp, wrapI, doPick, branch, List.getElem?_cons_succ, List.getElem?_cons_zero, List.nil_append, List.append_nil, Int.reduceNeg, decide_true, bne_self_eq_false, l6.rds.bLen u53, w2]
          refine opv_callf f6 (f42 p _ _ D' M' h6 n6 st6 f6) fun v7 h7 n7 hn7 f7 ⟨e7, o7⟩ => ?_
          subst e7
          have st7 := st6.old hn7 o7
          simp only [core1, hkr, execOp, opd, opds, putT, put, nth, doCall, callV_func, List.getElem?_cons_succ, List.getElem?_cons_zero, List.nil_append, List.append_nil, Int.reduceNeg]
          refine opv_callf f7 (f41 p _ _ D' M' h7 n7 st7 (by omega) (fun l hl => by have := ok4.o l hl; omega) f7) fun v8 h8 n8 hn8 f8 ⟨ys8, D8, l8, _, _, _, _, o8⟩ => ?_
          have st8 := st7.old hn8 o8
          simp only [core1, fgr, execOp, opd, opds, ofValue, putT, put, nth, forgetL, doCall, builtin, one1, bor, binInt, shiftB, intOp, wrapI, doPick, branch, List.getElem?_cons_succ, List.getElem?_cons_zero, Int.reduceNeg, gt_iff_lt, decide_true, decide_false, l8.rds.bLen u53, w3, q3, hwr]
          exact ih (i + 1) _ _ D' M' h8 n8 _ _ _ _ _ _ _ _ _ _ _ _ _ _ _ _ _ (by omega) ok4 st8 hM4 (mp4.keep (by rw [o8 mid (by omega), o7 mid (by omega), o6 mid (by omega), o5 mid (by omega)])) (by omega) f8
      · have hne : ls = [] := by
          unfold topE at ht
          exact Classical.byContradiction fun q => ht (if_pos (by have := List.length_pos_iff.2 q; omega))
        simp only [core1, fgr, hkr, execOp, opd, opds, ofValue, putT, put, nth, forgetL, doCall, callV_func, bor, binInt, shiftB, intOp, doPick, branch, List.getElem?_cons_succ, List.getElem?_cons_zero, List.nil_append, List.append_nil, int_beq, Int.reduceNeg, decide_true, decide_false, ht]
        refine opv_callf f3 (f38 p 115 ls os D M h3 n3 st3 (by omega) (by omega) (fun l hl => by have := ok.l l hl; omega) f3) fun v4 h4 n4 hn4 f4 ⟨e4, D', M', st4, c4⟩ => ?_
        subst e4
        have mp4 : MapAt h4 mid 0 (grows.map eb) := mp3.keep (c4.old mid (by omega) (fun q => hM mid q rfl))
        have hM4 : ∀ j, M' j → j ≠ mid := fun j hj => (c4.m' j hj).elim (hM j) (fun q => by omega)
        have ok4 := all_ok (c := 115) ok
        have okn4 := ok4.n
        by_cases he : allE 115 ls os = 0
        case neg =>
          obtain ⟨k1, k2⟩ := err_keeps he
          rw [k1, k2] at st4 ok4
          simp only [core1, fgr, hkr, execOp, opd, opds, ofValue, putT, put, nth, forgetL, doCall, callV_func, bor, binInt, shiftB, intOp, List.nil_append, List.append_nil, int_bne, Int.reduceNeg, not_false_eq_true, decide_true, he]
          refine opv_callf f4 (f42 p _ _ D' M' h4 n4 st4 f4) fun v5 h5 n5 hn5 f5 ⟨e5, o5⟩ => ?_
          subst e5
          have st5 := st4.old hn5 o5
          simp only [core1, hkr, execOp, opd, opds, putT, put, nth, doCall, callV_func, bor, binInt, shiftB, intOp, List.getElem?_cons_succ, List.getElem?_cons_zero, List.nil_append, List.append_nil, Int.reduceNeg, decide_true, bne_self_eq_false]
          refine opv_callf f5 (f41 p _ _ D' M' h5 n5 st5 (by omega) (fun l hl => by have := ok4.o l hl; omega) f5) fun v6 h6 n6 hn6 f6 ⟨ys6, D6, l6, _, _, _, _, o6⟩ => ?_
          have st6 := st5.old hn6 o6
          have fin : ∀ (x10 x11 x12 x13 x14 x15 x16 x17 x34 x42 x53 x78 x83 x101 x103 x105 x129 : AVal), Run env 11 none Q (.loop lp11_0) ks (v :: w :: AVal.junk :: AVal.junk :: .bool false :: .bool true :: .ptr p 0 :: .int .i64 0 :: .map mid :: AVal.junk :: x10 :: x11 :: x12 :: x13 :: x14 :: x15 :: x16 :: x17 :: AVal.junk :: AVal.junk :: AVal.junk :: AVal.junk :: AVal.junk :: AVal.junk :: AVal.junk :: AVal.junk :: AVal.junk :: AVal.junk :: AVal.junk :: AVal.junk :: AVal.junk :: AVal.junk :: AVal.junk :: AVal.junk :: x34 :: AVal.junk :: AVal.junk :: AVal.junk :: AVal.junk :: AVal.junk :: AVal.junk :: AVal.junk :: x42 :: AVal.junk :: AVal.junk :: AVal.junk :: AVal.junk :: AVal.junk :: AVal.junk :: AVal.junk :: w :: .int .i64 (cs.length : Nat) :: .int .i64 ((i + 1 : Nat) : Int) :: x53 :: AVal.junk :: AVal.junk :: AVal.junk :: AVal.junk :: AVal.junk :: AVal.junk :: AVal.junk :: AVal.junk :: AVal.junk :: AVal.junk :: AVal.junk :: AVal.junk :: AVal.junk :: AVal.junk :: AVal.junk :: AVal.junk :: AVal.junk :: AVal.junk :: AVal.junk :: AVal.junk :: AVal.junk :: AVal.junk :: AVal.junk :: AVal.junk :: x78 :: AVal.junk :: AVal.junk :: AVal.junk :: AVal.junk :: x83 :: AVal.junk :: AVal.junk :: AVal.junk :: AVal.junk :: AVal.junk :: AVal.junk :: AVal.junk :: AVal.junk :: AVal.junk :: AVal.junk :: AVal.junk :: AVal.junk :: AVal.junk :: AVal.junk :: AVal.junk :: AVal.junk :: AVal.junk :: x101 :: AVal.junk :: x103 :: AVal.junk :: x105 :: AVal.junk :: AVal.junk :: AVal.junk :: AVal.junk :: AVal.junk :: AVal.junk :: AVal.junk :: AVal.junk :: AVal.junk :: AVal.junk :: AVal.junk :: AVal.junk :: AVal.junk :: AVal.junk :: AVal.junk :: AVal.junk :: AVal.junk :: AVal.junk :: AVal.junk :: AVal.junk :: AVal.junk :: AVal.junk :: AVal.junk :: x129 :: AVal.junk :: AVal.junk :: []) h6 n6 := fun x10 x11 x12 x13 x14 x15 x16 x17 x34 x42 x53 x78 x83 x101 x103 x105 x129 => ih (i + 1) _ _ D' M' h6 n6 _ _ _ _ _ _ _ _ _ _ _ _ _ _ _ _ _ (by omega) ok4 st6 hM4 (mp4.keep (by rw [o6 mid (by omega), o5 mid (by omega)])) (by omega) f6
          by_cases hl : leastV 115 < 0
          · have h2 : allE 115 ls os = 2 := err2.2 hl
            have hl' : ¬ 0 ≤ leastV 115 := by omega
            simp only [core1, tyr, fgr, hkr, execOp, opd, opds, ofValue, putT, put, nth, forgetL, doCall, callV_func, builtin, one1, und, bor, binInt, binOther, shiftB, intOp, wrapI, strK, aggK, doPick, branch, equalTop, equal, nilFn, nilPtr, boolOf, List.getElem?_cons_succ, List.getElem?_cons_zero, List.nil_append, List.append_nil, Int.reduceNeg, decide_true, decide_false, beq_self_eq_true, bne_self_eq_false, l6.rds.bLen u53, c44, h2, hl', hwr, show (false == true) = false from rfl]
            exact fin _ _ _ _ _ _ _ _ _ _ _ _ _ _ _ _ _
          · have h2 : ¬ allE 115 ls os = 2 := fun q => hl (err2.1 q)
            have hl' : 0 ≤ leastV 115 := by omega
            simp only [core1, tyr, fgr, hkr, execOp, opd, opds, ofValue, putT, put, nth, forgetL, doCall, callV_func, builtin, one1, und, bor, binInt, binOther, shiftB, intOp, wrapI, strK, aggK, doPick, branch, equalTop, equal, nilFn, nilPtr, boolOf, List.getElem?_cons_succ, List.getElem?_cons_zero, List.nil_append, List.append_nil, int_beq, Int.reduceNeg, decide_true, decide_false, bne_self_eq_false, l6.rds.bLen u53, c44, h2, hl', hwr, show (true == false) = false from rfl]
            exact fin _ _ _ _ _ _ _ _ _ _ _ _ _ _ _ _ _
        obtain ⟨n1', n2', n3'⟩ := counts he
        have hby : byV 115 ls = getC 115 grows := by unfold byV; rw [if_neg (fun q => q.2.1 hne)]
        have w3 : IntKind.i64.wrap ((((allL 115 ls os).length : Nat) : Int) + (((allO 115 ls os).length : Nat) : Int)) = (((allL 115 ls os).length + (allO 115 ls os).length : Nat) : Int) := by rw [w64 (by omega) (by omega)]; omega
        have q3 : ¬ 100 < (((allL 115 ls os).length + (allO 115 ls os).length : Nat) : Int) := by omega
        have bX : -2 ≤ getC 115 grows ∧ getC 115 grows ≤ 3 := by have := byV_r 115 ls; omega
        have hmv : movV 115 = 0 := rfl
        simp only [core1, fgr, hkr, execOp, opd, opds, ofValue, putT, put, nth, forgetL, doCall, callV_func, bor, binInt, shiftB, intOp, List.nil_append, List.append_nil, int_beq, Int.reduceEq, Int.reduceNeg, decide_true, decide_false, bne_self_eq_false, he]
        have w1 : IntKind.i64.wrap (((ls.length : Nat) : Int) + getC 115 grows) = (((allL 115 ls os).length : Nat) : Int) := by rw [w64 (by omega) (by omega)]; omega
        have w2 : IntKind.i64.wrap (((os.length : Nat) : Int) + 0) = (((allO 115 ls os).length : Nat) : Int) := by rw [w64 (by omega) (by omega)]; omega
        refine opv_callf f4 (f42 p _ _ D' M' h4 n4 st4 f4) fun v5 h5 n5 hn5 f5 ⟨e5, o5⟩ => ?_
        subst e5
        have st5 := st4.old hn5 o5
        simp only [core1, hkr, execOp, opd, opds, putT, put, nth, doCall, callV_func, bor, binInt, shiftB, intOp, wrapI, List.getElem?_cons_succ, List.getElem?_cons_zero, List.nil_append, List.append_nil, Int.reduceNeg, decide_true, bne_self_eq_false, w1]
        refine opv_callf f5 (f41 p _ _ D' M' h5 n5 st5 (by omega) (fun l hl => by have := ok4.o l hl; omega) f5) fun v6 h6 n6 hn6 f6 ⟨ys6, D6, l6, _, _, _, _, o6⟩ => ?_
        have st6 := st5.old hn6 o6
        simp only [core1, hkr, execOp, opd, opds, ofValue, putT, put, nth, doCall, callV_func, builtin, one1, bor, binInt, shiftB, intOp, wrapI, doPick, branch, List.getElem?_cons_succ, List.getElem?_cons_zero, List.nil_append, List.append_nil, Int.reduceNeg, decide_true, bne_self_eq_false, l6.rds.bLen u53, w2]
        refine opv_callf f6 (f42 p _ _ D' M' h6 n6 st6 f6) fun v7 h7 n7 hn7 f7 ⟨e7, o7⟩ => ?_
        subst e7
        have st7 := st6.old hn7 o7
        simp only [core1, hkr, execOp, opd, opds, putT, put, nth, doCall, callV_func, List.getElem?_cons_succ, List.getElem?_cons_zero, List.nil_append, List.append_nil, Int.reduceNeg]
        refine opv_callf f7 (f41 p _ _ D' M' h7 n7 st7 (by omega) (fun l hl => by have := ok4.o l hl; omega) f7) fun v8 h8 n8 hn8 f8 ⟨ys8, D8, l8, _, _, _, _, o8⟩ => ?_
        have st8 := st7.old hn8 o8
        simp only [core1, fgr, execOp, opd, opds, ofValue, putT, put, nth, forgetL, doCall, builtin, one1, bor, binInt, shiftB, intOp, wrapI, doPick, branch, List.getElem?_cons_succ, List.getElem?_cons_zero, Int.reduceNeg, gt_iff_lt, decide_true, decide_false, l8.rds.bLen u53, w3, q3, hwr]
        exact ih (i + 1) _ _ D' M' h8 n8 _ _ _ _ _ _ _ _ _ _ _ _ _ _ _ _ _ (by omega) ok4 st8 hM4 (mp4.keep (by rw [o8 mid (by omega), o7 mid (by omega), o6 mid (by omega), o5 mid (by omega)])) (by omega) f8
    · simp only [core1, fgr, hkr, execOp, opd, opds, ofValue, putT, put, nth, forgetL, doCall, callV_func, doPick, branch, List.getElem?_cons_succ, List.getElem?_cons_zero, List.nil_append, List.append_nil, Int.reduceNeg, decide_false, e115]
      refine opv_callf f3 (f38 p c ls os D M h3 n3 st3 (by omega) (by omega) (fun l hl => by have := ok.l l hl; omega) f3) fun v4 h4 n4 hn4 f4 ⟨e4, D', M', st4, c4⟩ => ?_
      subst e4
      have mp4 : MapAt h4 mid 0 (grows.map eb) := mp3.keep (c4.old mid (by omega) (fun q => hM mid q rfl))
      have hM4 : ∀ j, M' j → j ≠ mid := fun j hj => (c4.m' j hj).elim (hM j) (fun q => by omega)
      have ok4 := all_ok (c := c) ok
      have okn4 := ok4.n
      by_cases he : allE c ls os = 0
      case neg =>
        obtain ⟨k1, k2⟩ := err_keeps he
        rw [k1, k2] at st4 ok4
        simp only [core1, fgr, hkr, execOp, opd, opds, ofValue, putT, put, nth, forgetL, doCall, callV_func, bor, binInt, shiftB, intOp, List.nil_append, List.append_nil, int_bne, Int.reduceNeg, not_false_eq_true, decide_true, he]
        refine opv_callf f4 (f42 p _ _ D' M' h4 n4 st4 f4) fun v5 h5 n5 hn5 f5 ⟨e5, o5⟩ => ?_
        subst e5
        have st5 := st4.old hn5 o5
        simp only [core1, hkr, execOp, opd, opds, putT, put, nth, doCall, callV_func, bor, binInt, shiftB, intOp, List.getElem?_cons_succ, List.getElem?_cons_zero, List.nil_append, List.append_nil, Int.reduceNeg, decide_true, bne_self_eq_false]
        refine opv_callf f5 (f41 p _ _ D' M' h5 n5 st5 (by omega) (fun l hl => by have := ok4.o l hl; omega) f5) fun v6 h6 n6 hn6 f6 ⟨ys6, D6, l6, _, _, _, _, o6⟩ => ?_
        have st6 := st5.old hn6 o6
        have fin : ∀ (x10 x11 x12 x13 x14 x15 x16 x17 x34 x42 x53 x78 x83 x101 x103 x105 x129 : AVal), Run env 11 none Q (.loop lp11_0) ks (v :: w :: AVal.junk :: AVal.junk :: .bool false :: .bool true :: .ptr p 0 :: .int .i64 0 :: .map mid :: AVal.junk :: x10 :: x11 :: x12 :: x13 :: x14 :: x15 :: x16 :: x17 :: AVal.junk :: AVal.junk :: AVal.junk :: AVal.junk :: AVal.junk :: AVal.junk :: AVal.junk :: AVal.junk :: AVal.junk :: AVal.junk :: AVal.junk :: AVal.junk :: AVal.junk :: AVal.junk :: AVal.junk :: AVal.junk :: x34 :: AVal.junk :: AVal.junk :: AVal.junk :: AVal.junk :: AVal.junk :: AVal.junk :: AVal.junk :: x42 :: AVal.junk :: AVal.junk :: AVal.junk :: AVal.junk :: AVal.junk :: AVal.junk :: AVal.junk :: w :: .int .i64 (cs.length : Nat) :: .int .i64 ((i + 1 : Nat) : Int) :: x53 :: AVal.junk :: AVal.junk :: AVal.junk :: AVal.junk :: AVal.junk :: AVal.junk :: AVal.junk :: AVal.junk :: AVal.junk :: AVal.junk :: AVal.junk :: AVal.junk :: AVal.junk :: AVal.junk :: AVal.junk :: AVal.junk :: AVal.junk :: AVal.junk :: AVal.junk :: AVal.junk :: AVal.junk :: AVal.junk :: AVal.junk :: AVal.junk :: x78 :: AVal.junk :: AVal.junk :: AVal.junk :: AVal.junk :: x83 :: AVal.junk :: AVal.junk :: AVal.junk :: AVal.junk :: AVal.junk :: AVal.junk :: AVal.junk :: AVal.junk :: AVal.junk :: AVal.junk :: AVal.junk :: AVal.junk :: AVal.junk :: AVal.junk :: AVal.junk :: AVal.junk :: AVal.junk :: x101 :: AVal.junk :: x103 :: AVal.junk :: x105 :: AVal.junk :: AVal.junk :: AVal.junk :: AVal.junk :: AVal.junk :: AVal.junk :: AVal.junk :: AVal.junk :: AVal.junk :: AVal.junk :: AVal.junk :: AVal.junk :: AVal.junk :: AVal.junk :: AVal.junk :: AVal.junk :: AVal.junk :: AVal.junk :: AVal.junk :: AVal.junk :: AVal.junk :: AVal.junk :: AVal.junk :: x129 :: AVal.junk :: AVal.junk :: []) h6 n6 := fun x10 x11 x12 x13 x14 x15 x16 x17 x34 x42 x53 x78 x83 x101 x103 x105 x129 => ih (i + 1) _ _ D' M' h6 n6 _ _ _ _ _ _ _ _ _ _ _ _ _ _ _ _ _ (by omega) ok4 st6 hM4 (mp4.keep (by rw [o6 mid (by omega), o5 mid (by omega)])) (by omega) f6
        by_cases hl : leastV c < 0
        · have h2 : allE c ls os = 2 := err2.2 hl
          have hl' : ¬ 0 ≤ leastV c := by omega
          simp only [core1, tyr, fgr, hkr, execOp, opd, opds, ofValue, putT, put, nth, forgetL, doCall, callV_func, builtin, one1, und, bor, binInt, binOther, shiftB, intOp, wrapI, strK, aggK, doPick, branch, equalTop, equal, nilFn, nilPtr, boolOf, List.getElem?_cons_succ, List.getElem?_cons_zero, List.nil_append, List.append_nil, Int.reduceNeg, decide_true, decide_false, beq_self_eq_true, bne_self_eq_false, l6.rds.bLen u53, c44, h2, hl', hwr, show (false == true) = false from rfl]
          exact fin _ _ _ _ _ _ _ _ _ _ _ _ _ _ _ _ _
        · have h2 : ¬ allE c ls os = 2 := fun q => hl (err2.1 q)
          have hl' : 0 ≤ leastV c := by omega
          simp only [core1, tyr, fgr, hkr, execOp, opd, opds, ofValue, putT, put, nth, forgetL, doCall, callV_func, builtin, one1, und, bor, binInt, binOther, shiftB, intOp, wrapI, strK, aggK, doPick, branch, equalTop, equal, nilFn, nilPtr, boolOf, List.getElem?_cons_succ, List.getElem?_cons_zero, List.nil_append, List.append_nil, int_beq, Int.reduceNeg, decide_true, decide_false, bne_self_eq_false, l6.rds.bLen u53, c44, h2, hl', hwr, show (true == false) = false from rfl]
          exact fin _ _ _ _ _ _ _ _ _ _ _ _ _ _ _ _ _
      obtain ⟨n1', n2', n3'⟩ := counts he
      have hby : byV c ls = getC c grows := by unfold byV; rw [if_neg (fun q => e115 q.1)]
      have w3 : IntKind.i64.wrap ((((allL c ls os).length : Nat) : Int) + (((allO c ls os).length : Nat) : Int)) = (((allL c ls os).length + (allO c ls os).length : Nat) : Int) := by rw [w64 (by omega) (by omega)]; omega
      have q3 : ¬ 100 < (((allL c ls os).length + (allO c ls os).length : Nat) : Int) := by omega
      have bX : -2 ≤ getC c grows ∧ getC c grows ≤ 3 := by have := byV_r c ls; omega
      by_cases c107 : c = 107
      · have hmv : movV c = 1 := by rw [c107]; rfl
        have c108 : ¬ c = 108 := by omega
        subst c107
        simp only [core1, fgr, hkr, execOp, opd, opds, ofValue, putT, put, nth, forgetL, doCall, callV_func, bor, binInt, shiftB, intOp, List.nil_append, List.append_nil, int_beq, Int.reduceEq, Int.reduceNeg, decide_true, decide_false, beq_self_eq_true, bne_self_eq_false, he]
        have w1 : IntKind.i64.wrap (((ls.length : Nat) : Int) + getC 107 grows) = (((allL 107 ls os).length : Nat) : Int) := by rw [w64 (by omega) (by omega)]; omega
        have w2 : IntKind.i64.wrap (((os.length : Nat) : Int) + 1) = (((allO 107 ls os).length : Nat) : Int) := by rw [w64 (by omega) (by omega)]; omega
        refine opv_callf f4 (f42 p _ _ D' M' h4 n4 st4 f4) fun v5 h5 n5 hn5 f5 ⟨e5, o5⟩ => ?_
        subst e5
        have st5 := st4.old hn5 o5
        simp only [core1, hkr, execOp, opd, opds, putT, put, nth, doCall, callV_func, bor, binInt, shiftB, intOp, wrapI, List.getElem?_cons_succ, List.getElem?_cons_zero, List.nil_append, List.append_nil, Int.reduceNeg, decide_true, bne_self_eq_false, w1]
        refine opv_callf f5 (f41 p _ _ D' M' h5 n5 st5 (by omega) (fun l hl => by have := ok4.o l hl; omega) f5) fun v6 h6 n6 hn6 f6 ⟨ys6, D6, l6, _, _, _, _, o6⟩ => ?_
        have st6 := st5.old hn6 o6
        simp only [core1, hkr, execOp, opd, opds, ofValue, putT, put, nth, doCall, callV_func, builtin, one1, bor, binInt, shiftB, intOp, wrapI, doPick, branch, List.getElem?_cons_succ, List.getElem?_cons_zero, List.nil_append, List.append_nil, Int.reduceNeg, decide_true, bne_self_eq_false, l6.rds.bLen u53, w2]
        refine opv_callf f6 (f42 p _ _ D' M' h6 n6 st6 f6) fun v7 h7 n7 hn7 f7 ⟨e7, o7⟩ => ?_
        subst e7
        have st7 := st6.old hn7 o7
        simp only [core1, hkr, execOp, opd, opds, putT, put, nth, doCall, callV_func, List.getElem?_cons_succ, List.getElem?_cons_zero, List.nil_append, List.append_nil, Int.reduceNeg]
        refine opv_callf f7 (f41 p _ _ D' M' h7 n7 st7 (by omega) (fun l hl => by have := ok4.o l hl; omega) f7) fun v8 h8 n8 hn8 f8 ⟨ys8, D8, l8, _, _, _, _, o8⟩ => ?_
        have st8 := st7.old hn8 o8
        simp only [core1, fgr, execOp, opd, opds, ofValue, putT, put, nth, forgetL, doCall, builtin, one1, bor, binInt, shiftB, intOp, wrapI, doPick, branch, List.getElem?_cons_succ, List.getElem?_cons_zero, Int.reduceNeg, gt_iff_lt, decide_true, decide_false, l8.rds.bLen u53, w3, q3, hwr]
        exact ih (i + 1) _ _ D' M' h8 n8 _ _ _ _ _ _ _ _ _ _ _ _ _ _ _ _ _ (by omega) ok4 st8 hM4 (mp4.keep (by rw [o8 mid (by omega), o7 mid (by omega), o6 mid (by omega), o5 mid (by omega)])) (by omega) f8
      by_cases c108 : c = 108
      · have hmv : movV c = -1 := by rw [c108]; rfl
        subst c108
        simp only [core1, fgr, hkr, execOp, opd, opds, ofValue, putT, put, nth, forgetL, doCall, callV_func, bor, binInt, shiftB, intOp, List.nil_append, List.append_nil, int_beq, Int.reduceEq, Int.reduceNeg, decide_true, decide_false, beq_self_eq_true, bne_self_eq_false, he]
        have w1 : IntKind.i64.wrap (((ls.length : Nat) : Int) + getC 108 grows) = (((allL 108 ls os).length : Nat) : Int) := by rw [w64 (by omega) (by omega)]; omega
        have w2 : IntKind.i64.wrap (((os.length : Nat) : Int) + (-1)) = (((allO 108 ls os).length : Nat) : Int) := by rw [w64 (by omega) (by omega)]; omega
        refine opv_callf f4 (f42 p _ _ D' M' h4 n4 st4 f4) fun v5 h5 n5 hn5 f5 ⟨e5, o5⟩ => ?_
        subst e5
        have st5 := st4.old hn5 o5
        simp only [core1, hkr, execOp, opd, opds, putT, put, nth, doCall, callV_func, bor, binInt, shiftB, intOp, wrapI, List.getElem?_cons_succ, List.getElem?_cons_zero, List.nil_append, List.append_nil, Int.reduceNeg, decide_true, bne_self_eq_false, w1]
        refine opv_callf f5 (f41 p _ _ D' M' h5 n5 st5 (by omega) (fun l hl => by have := ok4.o l hl; omega) f5) fun v6 h6 n6 hn6 f6 ⟨ys6, D6, l6, _, _, _, _, o6⟩ => ?_
        have st6 := st5.old hn6 o6
        simp only [core1, hkr, execOp, opd, opds, ofValue, putT, put, nth, doCall, callV_func, builtin, one1, bor, binInt, shiftB, intOp, wrapI, doPick, branch, List.getElem?_cons_succ, List.getElem?_cons_zero, List.nil_append, List.append_nil, Int.reduceNeg, decide_true, bne_self_eq_false, l6.rds.bLen u53, w2]
        refine opv_callf f6 (f42 p _ _ D' M' h6 n6 st6 f6) fun v7 h7 n7 hn7 f7 ⟨e7, o7⟩ => ?_
        subst e7
        have st7 := st6.old hn7 o7
        simp only [core1, hkr, execOp, opd, opds, putT, put, nth, doCall, callV_func, List.getElem?_cons_succ, List.getElem?_cons_zero, List.nil_append, List.append_nil, Int.reduceNeg]
        refine opv_callf f7 (f41 p _ _ D' M' h7 n7 st7 (by omega) (fun l hl => by have := ok4.o l hl; omega) f7) fun v8 h8 n8 hn8 f8 ⟨ys8, D8, l8, _, _, _, _, o8⟩ => ?_
        have st8 := st7.old hn8 o8
        simp only [core1, fgr, execOp, opd, opds, ofValue, putT, put, nth, forgetL, doCall, builtin, one1, bor, binInt, shiftB, intOp, wrapI, doPick, branch, List.getElem?_cons_succ, List.getElem?_cons_zero, Int.reduceNeg, gt_iff_lt, decide_true, decide_false, l8.rds.bLen u53, w3, q3, hwr]
        exact ih (i + 1) _ _ D' M' h8 n8 _ _ _ _ _ _ _ _ _ _ _ _ _ _ _ _ _ (by omega) ok4 st8 hM4 (mp4.keep (by rw [o8 mid (by omega), o7 mid (by omega), o6 mid (by omega), o5 mid (by omega)])) (by omega) f8
      have hmv : movV c = 0 := by unfold movV; rw [if_neg c107, if_neg c108]
      simp only [core1, fgr, hkr, execOp, opd, opds, ofValue, putT, put, nth, forgetL, doCall, callV_func, bor, binInt, shiftB, intOp, List.nil_append, List.append_nil, int_beq, Int.reduceNeg, decide_true, decide_false, bne_self_eq_false, he, c107, c108]
      have w1 : IntKind.i64.wrap (((ls.length : Nat) : Int) + getC c grows) = (((allL c ls os).length : Nat) : Int) := by rw [w64 (by omega) (by omega)]; omega
      have w2 : IntKind.i64.wrap (((os.length : Nat) : Int) + 0) = (((allO c ls os).length : Nat) : Int) := by rw [w64 (by omega) (by omega)]; omega
      refine opv_callf f4 (f42 p _ _ D' M' h4 n4 st4 f4) fun v5 h5 n5 hn5 f5 ⟨e5, o5⟩ => ?_
      subst e5
      have st5 := st4.old hn5 o5
      simp only [core1, hkr, execOp, opd, opds, putT, put, nth, doCall, callV_func, bor, binInt, shiftB, intOp, wrapI, List.getElem?_cons_succ, List.getElem?_cons_zero, List.nil_append, List.append_nil, Int.reduceNeg, decide_true, bne_self_eq_false, w1]
      refine opv_callf f5 (f41 p _ _ D' M' h5 n5 st5 (by omega) (fun l hl => by have := ok4.o l hl; omega) f5) fun v6 h6 n6 hn6 f6 ⟨ys6, D6, l6, _, _, _, _, o6⟩ => ?_
      have st6 := st5.old hn6 o6
      simp only [core1, hkr, execOp, opd, opds, ofValue, putT, put, nth, doCall, callV_func, builtin, one1, bor, binInt, shiftB, intOp, wrapI, doPick, branch, List.getElem?_cons_succ, List.getElem?_cons_zero, List.nil_append, List.append_nil, Int.reduceNeg, decide_true, bne_self_eq_false, l6.rds.bLen u53, w2]
      refine opv_callf f6 (f42 p _ _ D' M' h6 n6 st6 f6) fun v7 h7 n7 hn7 f7 ⟨e7, o7⟩ => ?_
      subst e7
      have st7 := st6.old hn7 o7
      simp only [core1, hkr, execOp, opd, opds, putT, put, nth, doCall, callV_func, List.getElem?_cons_succ, List.getElem?_cons_zero, List.nil_append, List.append_nil, Int.reduceNeg]
      refine opv_callf f7 (f41 p _ _ D' M' h7 n7 st7 (by omega) (fun l hl => by have := ok4.o l hl; omega) f7) fun v8 h8 n8 hn8 f8 ⟨ys8, D8, l8, _, _, _, _, o8⟩ => ?_
      have st8 := st7.old hn8 o8
      simp only [core1, fgr, execOp, opd, opds, ofValue, putT, put, nth, forgetL, doCall, builtin, one1, bor, binInt, shiftB, intOp, wrapI, doPick, branch, List.getElem?_cons_succ, List.getElem?_cons_zero, Int.reduceNeg, gt_iff_lt, decide_true, decide_false, l8.rds.bLen u53, w3, q3, hwr]
      exact ih (i + 1) _ _ D' M' h8 n8 _ _ _ _ _ _ _ _ _ _ _ _ _ _ _ _ _ (by omega) ok4 st8 hM4 (mp4.keep (by rw [o8 mid (by omega), o7 mid (by omega), o6 mid (by omega), o5 mid (by omega)])) (by omega) f8
/- By how many elements each operation makes the lists longer: the statement. -/
set_option maxHeartbeats 8000000 in
theorem law11 (v : AVal) (hv : Arg Try.prog 53 [v]) (w : AVal) (cs : List UInt8) (hw : ArgBytes w cs) : Wp (callI env (evalW env) 11 [v, w]) (fun _ => none) 0 fun v' _ _ => v' = .bool true := by
  obtain ⟨ls, xs, hl⟩ := argL hv
  refine wp_callI ff11 fi11 ?_
  have f0 : Free (fun _ => none) 0 := Free.none
  generalize (fun _ => none : Hp) = h0 at *
  have hml := hl.len
  have hmx : maxLen = 9223372036854775807 := by decide
  have hvn : ∀ {m : Nat} (j : Nat), ownId v = some j → j < m := fun j hj => by rw [hl.id] at hj; cases hj
  simp only [fu11, Try.f11, Option.getD_some, List.replicate, core1, fgr, hkr, execOp, opd, opds, ofValue, putT, put, forgetL, doCall, callV_func, ended, resultOf, oneOrTup, List.append_eq, List.cons_append, List.nil_append, List.append_nil, List.length_cons, List.length_nil, Nat.reduceAdd, Nat.reduceSub, Int.reduceNeg, Nat.zero_add, wp_pure]
  refine opv_callf f0 (f35 h0 0 f0) fun v1 h1 n1 hn1 f1 ⟨e1, o1⟩ => ?_
  subst e1
  by_cases hg1 : 60 < ls.length
  · have hc : 60 < ((ls.length : Nat) : Int) := by omega
    simp only [core1, fgr, execOp, opd, opds, ofValue, putT, put, nth, forgetL, doCall, builtin, one1, bor, binInt, shiftB, intOp, doPick, branch, List.getElem?_cons_succ, List.getElem?_cons_zero, Int.reduceNeg, gt_iff_lt, decide_true, and_self, (hl.rd h1).bLen u53, hc]
  have hc : ¬ 60 < ((ls.length : Nat) : Int) := by omega
  simp only [core1, fgr, hkr, execOp, opd, opds, ofValue, putT, put, nth, forgetL, doCall, callV_func, builtin, one1, bor, binInt, shiftB, intOp, List.getElem?_cons_succ, List.getElem?_cons_zero, List.nil_append, List.append_nil, Int.reduceNeg, gt_iff_lt, decide_true, decide_false, (hl.rd h1).bLen u53, hc]
  refine opv_same (f36 v xs ls (fun _ => False) h1 n1 (by omega) (hl.rd h1) (hl.el h1)) ?_
  cases hg : greatV ls with
  | true => simp only [core1, fgr, execOp, opd, ofValue, putT, put, nth, forgetL, doPick, branch, List.getElem?_cons_succ, List.getElem?_cons_zero, Int.reduceNeg, and_self]
  | false =>
  by_cases hc1 : 30 < cs.length
  · have hc2 : 30 < ((cs.length : Nat) : Int) := by omega
    simp only [core1, fgr, execOp, opd, opds, ofValue, putT, put, nth, forgetL, doCall, builtin, one1, bor, binInt, shiftB, intOp, doPick, branch, List.getElem?_cons_succ, List.getElem?_cons_zero, Int.reduceNeg, gt_iff_lt, decide_true, and_self, (hw.bytes h1).bLen t22, hc2]
  have hc2 : ¬ 30 < ((cs.length : Nat) : Int) := by omega
  simp only [core1, fgr, hkr, execOp, opd, opds, ofValue, putT, put, nth, forgetL, doCall, callV_func, builtin, one1, bor, binInt, shiftB, intOp, unOp, doPick, branch, List.getElem?_cons_succ, List.getElem?_cons_zero, List.nil_append, List.append_nil, Int.reduceNeg, gt_iff_lt, decide_true, decide_false, Bool.not_true, (hw.bytes h1).bLen t22, hc2]
  refine opv_callf f1 (f37 v xs ls (fun _ => False) h1 n1 (by omega) (hl.rd h1) hvn (hl.el h1) (fun j hj => hj.elim) f1) fun v3 h3 n3 hn3 f3 ⟨o3, hh⟩ => ?_
  rcases hh with ⟨hne, e3⟩ | ⟨hne, p, e3, st⟩
  · subst e3
    have he : newE ls = 120 := by
      unfold newE at hne ⊢
      by_cases q : ls.any longB = true
      · rw [if_pos q]
      · rw [if_neg q, if_neg (by omega)] at hne; exact absurd rfl hne
    simp only [core1, fgr, execOp, opd, ofValue, putT, put, nth, forgetL, bor, binInt, shiftB, intOp, doPick, branch, extract, getO, List.getElem?_cons_succ, List.getElem?_cons_zero, int_bne, Int.reduceEq, Int.reduceNeg, not_false_eq_true, decide_true, and_self, beq_self_eq_true, he]
  subst e3
  have ok0 := new_ok hne
  obtain ⟨D, M, s, hd, hm⟩ := st
  have a1 : ∀ j, M j → j < n3 := fun j hj => (s.m j hj).1
  simp only [core1, fgr, execOp, opd, opt, ofValue, putT, put, nth, forgetL, bor, binInt, shiftB, intOp, extract, getO, List.getElem?_cons_succ, List.getElem?_cons_zero, Int.reduceNeg, decide_true, bne_self_eq_false, makeMapM, opt, opv_new]
  obtain ⟨H0, hH0⟩ : ∃ H0, H0 = upd h3 n3 (some (.map [] 0)) := ⟨_, rfl⟩
  have mp0 : MapAt H0 n3 0 (([] : List (Int × Int)).map eb) := by unfold MapAt; rw [hH0, upd_same]; rfl
  have o0 : ∀ j, j ≠ n3 → H0 j = h3 j := fun j hj => by rw [hH0, upd_ne _ _ hj]
  have F0 : Free H0 (n3 + 1) := by rw [hH0]; exact f3.new
  rw [← hH0]
  clear hH0
  obtain ⟨H1, wr1, mp1, po1⟩ := map_put (n := n3 + 1) mp0 109 (-2) rfl
  rw [opv_wr wr1]
  simp only [core1, execOp, opd, ofValue, putT, nth, Int.reduceNeg]
  obtain ⟨H2, wr2, mp2, po2⟩ := map_put (n := n3 + 1) mp1 117 (-1) rfl
  rw [opv_wr wr2]
  simp only [core1, execOp, opd, ofValue, putT, nth, Int.reduceNeg]
  obtain ⟨H3, wr3, mp3, po3⟩ := map_put (n := n3 + 1) mp2 119 (-1) rfl
  rw [opv_wr wr3]
  simp only [core1, execOp, opd, ofValue, putT, nth, Int.reduceNeg]
  obtain ⟨H4, wr4, mp4, po4⟩ := map_put (n := n3 + 1) mp3 107 (-1) rfl
  rw [opv_wr wr4]
  simp only [core1, execOp, opd, ofValue, putT, nth, Int.reduceNeg]
  obtain ⟨H5, wr5, mp5, po5⟩ := map_put (n := n3 + 1) mp4 122 (-1) rfl
  rw [opv_wr wr5]
  simp only [core1, execOp, opd, ofValue, putT, nth, Int.reduceNeg]
  obtain ⟨H6, wr6, mp6, po6⟩ := map_put (n := n3 + 1) mp5 118 (1) rfl
  rw [opv_wr wr6]
  simp only [core1, execOp, opd, ofValue, putT, nth, Int.reduceNeg]
  obtain ⟨H7, wr7, mp7, po7⟩ := map_put (n := n3 + 1) mp6 120 (1) rfl
  rw [opv_wr wr7]
  simp only [core1, execOp, opd, ofValue, putT, nth, Int.reduceNeg]
  obtain ⟨H8, wr8, mp8, po8⟩ := map_put (n := n3 + 1) mp7 125 (1) rfl
  rw [opv_wr wr8]
  simp only [core1, execOp, opd, ofValue, putT, nth, Int.reduceNeg]
  obtain ⟨H9, wr9, mp9, po9⟩ := map_put (n := n3 + 1) mp8 116 (1) rfl
  rw [opv_wr wr9]
  simp only [core1, execOp, opd, ofValue, putT, nth, Int.reduceNeg]
  obtain ⟨H10, wr10, mp10, po10⟩ := map_put (n := n3 + 1) mp9 130 (1) rfl
  rw [opv_wr wr10]
  simp only [core1, execOp, opd, ofValue, putT, nth, Int.reduceNeg]
  obtain ⟨H11, wr11, mp11, po11⟩ := map_put (n := n3 + 1) mp10 108 (1) rfl
  rw [opv_wr wr11]
  simp only [core1, execOp, opd, ofValue, putT, nth, Int.reduceNeg]
  obtain ⟨H12, wr12, mp12, po12⟩ := map_put (n := n3 + 1) mp11 110 (2) rfl
  rw [opv_wr wr12]
  simp only [core1, execOp, opd, ofValue, putT, nth, Int.reduceNeg]
  obtain ⟨H13, wr13, mp13, po13⟩ := map_put (n := n3 + 1) mp12 112 (2) rfl
  rw [opv_wr wr13]
  simp only [core1, execOp, opd, ofValue, putT, nth, Int.reduceNeg]
  obtain ⟨H14, wr14, mp14, po14⟩ := map_put (n := n3 + 1) mp13 111 (3) rfl
  rw [opv_wr wr14]
  simp only [core1, fgr, execOp, opd, opds, putT, put, nth, forgetL, doCall, builtin, one1, Int.reduceNeg]
  have old : ∀ j, j ≠ n3 → H14 j = h3 j := fun j q => by rw [po14 j q, po13 j q, po12 j q, po11 j q, po10 j q, po9 j q, po8 j q, po7 j q, po6 j q, po5 j q, po4 j q, po3 j q, po2 j q, po1 j q, o0 j q]
  have F14 : Free H14 (n3 + 1) := fun j hj => by rw [old j (by omega)]; exact f3 j (by omega)
  have sN : Stk H14 (n3 + 1) D M p ls [] := s.old (by omega) fun j hj => old j (by omega)
  simp only [core1, fgr, execOp, opd, ofValue, putT, put, forgetL, Int.reduceNeg, (hw.bytes H14).bLen t22]
  refine loop11 _ _ p n3 v w cs (by omega) hw ?_ cs.length 0 ls [] D M H14 (n3 + 1) _ _ _ _ _ _ _ _ _ _ _ _ _ _ _ _ _ (by omega) ok0 sN (fun j hj => by have := a1 j hj; omega) mp14 (by omega) F14
  intro h4 n4 x10 x11 x12 x13 x14 x15 x16 x17 x34 x42 x52 x53 x78 x83 x101 x103 x105 x129
  simp only [core1, fgr, execOp, opd, putT, put, nth, forgetL, and_self]
end Go.Am.Ytmoplhbncjicbaa
