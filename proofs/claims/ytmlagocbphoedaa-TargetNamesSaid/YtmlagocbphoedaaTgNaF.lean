/- The functions that the statement reaches, gone through. -/
import Derived.Test.YtmlagocbphoedaaTgNaE
set_option linter.unusedSimpArgs false
set_option linter.unusedVariables false
set_option linter.defProp false
set_option maxRecDepth 10000
namespace Go.Am.Ytmlagocbphoedaa
open Go Go.Am Go.Proofs
set_option maxHeartbeats 40000000 in
theorem law9 : Wp (callI env (evalW env) 9 []) (fun _ => none) 0 fun v _ _ => v = .bool true := by
  refine wp_callI ff9 fi9 ?_
  obtain ⟨h0, eh0⟩ : ∃ h0 : Hp, h0 = fun _ => none := ⟨_, rfl⟩
  have f0 : Free h0 0 := by rw [eh0]; exact Free.none
  simp only [fu9, Try.f9, Option.getD_some, List.replicate, core1, fgr, hkr, execOp, opd, opds, ofValue, putT, put, forgetL, doCall, callV_func, ended, resultOf, oneOrTup, List.append_eq, List.cons_append, List.nil_append, List.append_nil, List.length_nil, Nat.reduceSub, wp_pure]
  rw [← eh0]
  refine opv_callf f0 (f19 305419776 _ _ (by decide)) fun v0 h0x n0x hn0 fr0 ⟨e0, o0⟩ => ?_
  subst e0
  simp only [core1, hkr, execOp, opd, opds, ofValue, putT, put, nth, doCall, callV_func, List.nil_append, List.append_nil]
  refine opv_callf fr0 (f35 68301910 305419776 _ _ (by decide) is_68301910 fr0) fun v1 h1x n1x hn1 fr1 ⟨e1, o1⟩ => ?_
  subst e1
  simp only [core1, hkr, execOp, opd, opds, ofValue, putT, put, nth, doCall, callV_func, List.getElem?_cons_succ, List.getElem?_cons_zero, List.nil_append, List.append_nil]
  refine opv_callf fr1 (f36 8388607 232 _ _ (by decide) fr1) fun v2 h2x n2x hn2 fr2 ⟨e2, o2⟩ => ?_
  subst e2
  rw [tm_8388607_232]
  simp only [core1, hkr, execOp, opd, opds, ofValue, putT, put, nth, doCall, callV_func, List.getElem?_cons_succ, List.getElem?_cons_zero, List.nil_append, List.append_nil]
  refine opv_callf fr2 (f35 545259519 57896037716911750921221705069588091649609539881711309849342236841432341020672 _ _ (by decide) is_545259519 fr2) fun v3 h3x n3x hn3 fr3 ⟨e3, o3⟩ => ?_
  subst e3
  simp only [core1, hkr, execOp, opd, opds, ofValue, putT, put, nth, doCall, callV_func, doPick, branch, List.getElem?_cons_succ, List.getElem?_cons_zero, List.nil_append, List.append_nil]
  refine opv_callf fr3 (f19 1 _ _ (by decide)) fun v4 h4x n4x hn4 fr4 ⟨e4, o4⟩ => ?_
  subst e4
  simp only [core1, hkr, execOp, opd, opds, ofValue, putT, put, nth, doCall, callV_func, List.getElem?_cons_succ, List.getElem?_cons_zero, List.nil_append, List.append_nil]
  refine opv_callf fr4 (f35 16842752 1 _ _ (by decide) is_16842752 fr4) fun v5 h5x n5x hn5 fr5 ⟨e5, o5⟩ => ?_
  subst e5
  simp only [core1, hkr, execOp, opd, opds, ofValue, putT, put, nth, doCall, callV_func, doPick, branch, List.getElem?_cons_succ, List.getElem?_cons_zero, List.nil_append, List.append_nil]
  refine opv_callf fr5 (f19 128 _ _ (by decide)) fun v6 h6x n6x hn6 fr6 ⟨e6, o6⟩ => ?_
  subst e6
  simp only [core1, hkr, execOp, opd, opds, ofValue, putT, put, nth, doCall, callV_func, List.getElem?_cons_succ, List.getElem?_cons_zero, List.nil_append, List.append_nil]
  refine opv_callf fr6 (f35 33587200 128 _ _ (by decide) is_33587200 fr6) fun v7 h7x n7x hn7 fr7 ⟨e7, o7⟩ => ?_
  subst e7
  simp only [core1, hkr, execOp, opd, opds, ofValue, putT, put, nth, doCall, callV_func, doPick, branch, List.getElem?_cons_succ, List.getElem?_cons_zero, List.nil_append, List.append_nil]
  refine opv_callf fr7 (f36 128 248 _ _ (by decide) fr7) fun v8 h8x n8x hn8 fr8 ⟨e8, o8⟩ => ?_
  subst e8
  rw [tm_128_248]
  simp only [core1, hkr, execOp, opd, opds, ofValue, putT, put, nth, doCall, callV_func, List.getElem?_cons_succ, List.getElem?_cons_zero, List.nil_append, List.append_nil]
  refine opv_callf fr8 (f35 553680896 57896044618658097711785492504343953926634992332820282019728792003956564819968 _ _ (by decide) is_553680896 fr8) fun v9 h9x n9x hn9 fr9 ⟨e9, o9⟩ => ?_
  subst e9
  simp only [core1, hkr, execOp, opd, opds, ofValue, putT, put, nth, doCall, callV_func, doPick, branch, List.getElem?_cons_succ, List.getElem?_cons_zero, List.nil_append, List.append_nil]
  refine opv_callf fr9 (f19 1193046 _ _ (by decide)) fun v10 h10x n10x hn10 fr10 ⟨e10, o10⟩ => ?_
  subst e10
  simp only [core1, hkr, execOp, opd, opds, ofValue, putT, put, nth, doCall, callV_func, List.getElem?_cons_succ, List.getElem?_cons_zero, List.nil_append, List.append_nil]
  refine opv_callf fr10 (f35 51524694 1193046 _ _ (by decide) is_51524694 fr10) fun v11 h11x n11x hn11 fr11 ⟨e11, o11⟩ => ?_
  subst e11
  simp only [core1, hkr, execOp, opd, opds, ofValue, putT, put, nth, doCall, callV_func, doPick, branch, List.getElem?_cons_succ, List.getElem?_cons_zero, List.nil_append, List.append_nil]
  refine opv_callf fr11 (f19 4660 _ _ (by decide)) fun v12 h12x n12x hn12 fr12 ⟨e12, o12⟩ => ?_
  subst e12
  simp only [core1, hkr, execOp, opd, opds, ofValue, putT, put, nth, doCall, callV_func, List.getElem?_cons_succ, List.getElem?_cons_zero, List.nil_append, List.append_nil]
  refine opv_callf fr12 (f35 34747392 4660 _ _ (by decide) is_34747392 fr12) fun v13 h13x n13x hn13 fr13 ⟨e13, o13⟩ => ?_
  subst e13
  simp only [core1, hkr, execOp, opd, opds, ofValue, putT, put, nth, doCall, callV_func, doPick, branch, List.getElem?_cons_succ, List.getElem?_cons_zero, List.nil_append, List.append_nil]
  refine opv_callf fr13 (f36 65535 240 _ _ (by decide) fr13) fun v14 h14x n14x hn14 fr14 ⟨e14, o14⟩ => ?_
  subst e14
  rw [tm_65535_240]
  simp only [core1, hkr, execOp, opd, opds, ofValue, putT, put, nth, doCall, callV_func, List.getElem?_cons_succ, List.getElem?_cons_zero, List.nil_append, List.append_nil]
  refine opv_callf fr14 (f35 553713663 115790322390251417039241401711187164934754157181743688420499462401711837020160 _ _ (by decide) is_553713663 fr14) fun v15 h15x n15x hn15 fr15 ⟨e15, o15⟩ => ?_
  subst e15
  simp only [core1, fgr, hkr, execOp, opd, opds, ofValue, putT, put, nth, forgetL, doCall, callV_func, doPick, branch, List.nil_append, List.append_nil]
  refine opv_callf fr15 (f37 76690518 _ _ (by decide) bad_76690518 fr15) fun v16 h16x n16x hn16 fr16 ⟨e16, o16⟩ => ?_
  subst e16
  simp only [core1, hkr, execOp, opd, opds, ofValue, putT, put, nth, doCall, callV_func, List.getElem?_cons_succ, List.getElem?_cons_zero, List.nil_append, List.append_nil]
  refine opv_callf fr16 (f37 16790614 _ _ (by decide) bad_16790614 fr16) fun v17 h17x n17x hn17 fr17 ⟨e17, o17⟩ => ?_
  subst e17
  simp only [core1, hkr, execOp, opd, opds, ofValue, putT, put, nth, doCall, callV_func, doPick, branch, List.getElem?_cons_succ, List.getElem?_cons_zero, List.nil_append, List.append_nil]
  refine opv_callf fr17 (f37 17970262 _ _ (by decide) bad_17970262 fr17) fun v18 h18x n18x hn18 fr18 ⟨e18, o18⟩ => ?_
  subst e18
  simp only [core1, hkr, execOp, opd, opds, ofValue, putT, put, nth, doCall, callV_func, doPick, branch, List.getElem?_cons_succ, List.getElem?_cons_zero, List.nil_append, List.append_nil]
  refine opv_callf fr18 (f37 0 _ _ (by decide) bad_0 fr18) fun v19 h19x n19x hn19 fr19 ⟨e19, o19⟩ => ?_
  subst e19
  simp only [core1, hkr, execOp, opd, opds, ofValue, putT, put, nth, doCall, callV_func, doPick, branch, List.getElem?_cons_succ, List.getElem?_cons_zero, List.nil_append, List.append_nil]
  refine opv_callf fr19 (f37 570425345 _ _ (by decide) bad_570425345 fr19) fun v20 h20x n20x hn20 fr20 ⟨e20, o20⟩ => ?_
  subst e20
  simp only [core1, hkr, execOp, opd, opds, ofValue, putT, put, nth, doCall, callV_func, doPick, branch, List.getElem?_cons_succ, List.getElem?_cons_zero, List.nil_append, List.append_nil]
  refine opv_callf fr20 (f37 553713664 _ _ (by decide) bad_553713664 fr20) fun v21 h21x n21x hn21 fr21 ⟨e21, o21⟩ => ?_
  subst e21
  simp only [core1, hkr, execOp, opd, opds, ofValue, putT, put, nth, doCall, callV_func, doPick, branch, List.getElem?_cons_succ, List.getElem?_cons_zero, List.nil_append, List.append_nil]
  refine opv_callf fr21 (f37 67108882 _ _ (by decide) bad_67108882 fr21) fun v22 h22x n22x hn22 fr22 ⟨e22, o22⟩ => ?_
  subst e22
  simp only [core1, hkr, execOp, opd, opds, ofValue, putT, put, nth, doCall, callV_func, doPick, branch, List.getElem?_cons_succ, List.getElem?_cons_zero, List.nil_append, List.append_nil]
  refine opv_callf fr22 (f37 4279383126 _ _ (by decide) bad_4279383126 fr22) fun v23 h23x n23x hn23 fr23 ⟨e23, o23⟩ => ?_
  subst e23
  simp only [core1, hkr, execOp, opd, opds, ofValue, putT, put, nth, doCall, callV_func, doPick, branch, List.getElem?_cons_succ, List.getElem?_cons_zero, List.nil_append, List.append_nil]
  refine opv_callf fr23 (f37 1193046 _ _ (by decide) bad_1193046 fr23) fun v24 h24x n24x hn24 fr24 ⟨e24, o24⟩ => ?_
  subst e24
  simp only [core1, hkr, execOp, opd, opds, ofValue, putT, put, nth, doCall, callV_func, doPick, branch, List.getElem?_cons_succ, List.getElem?_cons_zero, List.nil_append, List.append_nil]
  refine opv_callf fr24 (f37 545259520 _ _ (by decide) bad_545259520 fr24) fun v25 h25x n25x hn25 fr25 ⟨e25, o25⟩ => ?_
  subst e25
  simp only [core1, fgr, hkr, execOp, opd, opds, ofValue, putT, put, nth, forgetL, doCall, callV_func, doPick, branch, List.nil_append, List.append_nil]
  refine opv_callf fr25 (f36 8388607 232 _ _ (by decide) fr25) fun v26 h26x n26x hn26 fr26 ⟨e26, o26⟩ => ?_
  subst e26
  rw [tm_8388607_232]
  simp only [core1, hkr, execOp, opd, opds, putT, put, nth, doCall, callV_func, List.nil_append, List.append_nil]
  refine opv_callf fr26 (f23 57896037716911750921221705069588091649609539881711309849342236841432341020672 _ _ (by decide) fr26) fun v27 h27x n27x hn27 fr27 ⟨e27, o27⟩ => ?_
  subst e27
  rw [wk_57896037716911750921221705069588091649609539881711309849342236841432341020672]
  simp only [core1, tyr, execOp, opd, putT, put, nth, zeroOf, cel, alloc, doAlloc, newRow, extract, getO, List.getElem?_cons_succ, List.getElem?_cons_zero, W]
  refine opv_all4 (arr_0 (upd_same _ _ _)) ti25 rfl fun bA kA => ?_
  have kA := pick_wd kA
  have sA : ∀ j, j < n27x → (upd (upd h27x n27x (some (Blk.row (Cont.l [AVal.int IntKind.u64 0, AVal.int IntKind.u64 0, AVal.int IntKind.u64 0, AVal.int IntKind.u64 0]) 25))) n27x (some bA)) j = h27x j := fun j hj => by rw [upd_ne _ _ (by omega), upd_ne _ _ (by omega)]
  have fA : Free (upd (upd h27x n27x (some (Blk.row (Cont.l [AVal.int IntKind.u64 0, AVal.int IntKind.u64 0, AVal.int IntKind.u64 0, AVal.int IntKind.u64 0]) 25))) n27x (some bA)) (n27x + 1) := fr27.new.upd (by omega)
  generalize (upd (upd h27x n27x (some (Blk.row (Cont.l [AVal.int IntKind.u64 0, AVal.int IntKind.u64 0, AVal.int IntKind.u64 0, AVal.int IntKind.u64 0]) 25))) n27x (some bA)) = HA at *
  simp only [core1, fgr, hkr, execOp, opd, opds, ops2, putT, put, nth, forgetL, doCall, callV_func, List.nil_append, List.append_nil, hb0]
  refine opv_callf fA (f38 0 _ _ (by decide) fA) fun v28 h28x n28x hn28 fr28 ⟨e28, o28⟩ => ?_
  subst e28
  have kA := kA.keep (o28 _ (by omega))
  rw [not_0]
  simp only [core1, hkr, execOp, opd, opds, putT, put, nth, doCall, callV_func, List.nil_append, List.append_nil]
  refine opv_callf fr28 (f23 115792089237316195423570985008687907853269984665640564039457584007913129639935 _ _ (by decide) fr28) fun v29 h29x n29x hn29 fr29 ⟨e29, o29⟩ => ?_
  subst e29
  have kA := kA.keep (o29 _ (by omega))
  rw [wk_115792089237316195423570985008687907853269984665640564039457584007913129639935]
  simp only [core1, tyr, execOp, opd, putT, put, nth, zeroOf, cel, alloc, doAlloc, newRow, extract, getO, List.getElem?_cons_succ, List.getElem?_cons_zero, W]
  refine opv_all4 (arr_0 (upd_same _ _ _)) ti25 rfl fun bB kB => ?_
  have kB := pick_wd kB
  have sB : ∀ j, j < n29x → (upd (upd h29x n29x (some (Blk.row (Cont.l [AVal.int IntKind.u64 0, AVal.int IntKind.u64 0, AVal.int IntKind.u64 0, AVal.int IntKind.u64 0]) 25))) n29x (some bB)) j = h29x j := fun j hj => by rw [upd_ne _ _ (by omega), upd_ne _ _ (by omega)]
  have fB : Free (upd (upd h29x n29x (some (Blk.row (Cont.l [AVal.int IntKind.u64 0, AVal.int IntKind.u64 0, AVal.int IntKind.u64 0, AVal.int IntKind.u64 0]) 25))) n29x (some bB)) (n29x + 1) := fr29.new.upd (by omega)
  generalize (upd (upd h29x n29x (some (Blk.row (Cont.l [AVal.int IntKind.u64 0, AVal.int IntKind.u64 0, AVal.int IntKind.u64 0, AVal.int IntKind.u64 0]) 25))) n29x (some bB)) = HB at *
  have kA := kA.keep (sB _ (by omega))
  simp only [core1, fgr, hkr, execOp, opd, opds, ops2, putT, put, nth, forgetL, doCall, callV_func, List.nil_append, List.append_nil, hb0]
  refine opv_callf fB (f23 0 _ _ (by decide) fB) fun v30 h30x n30x hn30 fr30 ⟨e30, o30⟩ => ?_
  subst e30
  have kA := kA.keep (o30 _ (by omega))
  have kB := kB.keep (o30 _ (by omega))
  rw [wk_0]
  simp only [core1, tyr, execOp, opd, putT, put, nth, zeroOf, cel, alloc, doAlloc, newRow, extract, getO, List.getElem?_cons_succ, List.getElem?_cons_zero, W]
  refine opv_all4 (arr_0 (upd_same _ _ _)) ti25 rfl fun bC kC => ?_
  have kC := pick_wd kC
  have sC : ∀ j, j < n30x → (upd (upd h30x n30x (some (Blk.row (Cont.l [AVal.int IntKind.u64 0, AVal.int IntKind.u64 0, AVal.int IntKind.u64 0, AVal.int IntKind.u64 0]) 25))) n30x (some bC)) j = h30x j := fun j hj => by rw [upd_ne _ _ (by omega), upd_ne _ _ (by omega)]
  have fC : Free (upd (upd h30x n30x (some (Blk.row (Cont.l [AVal.int IntKind.u64 0, AVal.int IntKind.u64 0, AVal.int IntKind.u64 0, AVal.int IntKind.u64 0]) 25))) n30x (some bC)) (n30x + 1) := fr30.new.upd (by omega)
  generalize (upd (upd h30x n30x (some (Blk.row (Cont.l [AVal.int IntKind.u64 0, AVal.int IntKind.u64 0, AVal.int IntKind.u64 0, AVal.int IntKind.u64 0]) 25))) n30x (some bC)) = HC at *
  have kA := kA.keep (sC _ (by omega))
  have kB := kB.keep (sC _ (by omega))
  simp only [core1, fgr, hkr, execOp, opd, opds, ofValue, putT, put, nth, forgetL, doCall, callV_func, List.nil_append, List.append_nil]
  refine opv_callf fC (f19 1 _ _ (by decide)) fun v31 h31x n31x hn31 fr31 ⟨e31, o31⟩ => ?_
  subst e31
  have kA := kA.keep (o31 _ (by omega))
  have kB := kB.keep (o31 _ (by omega))
  simp only [core1, hkr, execOp, opd, opds, putT, put, nth, doCall, callV_func, List.nil_append, List.append_nil]
  refine opv_callf fr31 (f23 1 _ _ (by decide) fr31) fun v32 h32x n32x hn32 fr32 ⟨e32, o32⟩ => ?_
  subst e32
  have kA := kA.keep (o32 _ (by omega))
  have kB := kB.keep (o32 _ (by omega))
  rw [wk_1]
  simp only [core1, tyr, execOp, opd, putT, put, nth, zeroOf, cel, alloc, doAlloc, newRow, extract, getO, List.getElem?_cons_succ, List.getElem?_cons_zero, W]
  refine opv_all4 (arr_0 (upd_same _ _ _)) ti25 rfl fun bD kD => ?_
  have kD := pick_wd kD
  have sD : ∀ j, j < n32x → (upd (upd h32x n32x (some (Blk.row (Cont.l [AVal.int IntKind.u64 0, AVal.int IntKind.u64 0, AVal.int IntKind.u64 0, AVal.int IntKind.u64 0]) 25))) n32x (some bD)) j = h32x j := fun j hj => by rw [upd_ne _ _ (by omega), upd_ne _ _ (by omega)]
  have fD : Free (upd (upd h32x n32x (some (Blk.row (Cont.l [AVal.int IntKind.u64 0, AVal.int IntKind.u64 0, AVal.int IntKind.u64 0, AVal.int IntKind.u64 0]) 25))) n32x (some bD)) (n32x + 1) := fr32.new.upd (by omega)
  generalize (upd (upd h32x n32x (some (Blk.row (Cont.l [AVal.int IntKind.u64 0, AVal.int IntKind.u64 0, AVal.int IntKind.u64 0, AVal.int IntKind.u64 0]) 25))) n32x (some bD)) = HD at *
  have kA := kA.keep (sD _ (by omega))
  have kB := kB.keep (sD _ (by omega))
  simp only [core1, fgr, hkr, execOp, opd, opds, ops2, putT, put, nth, forgetL, doCall, callV_func, List.nil_append, List.append_nil, hb0]
  refine opv_callf fD (f15 0 _ _ (by decide) fD) fun v33 h33x n33x hn33 fr33 ⟨e33, o33⟩ => ?_
  subst e33
  have kA := kA.keep (o33 _ (by omega))
  have kB := kB.keep (o33 _ (by omega))
  have kD := kD.keep (o33 _ (by omega))
  rw [cp_0]
  simp only [core1, fgr, execOp, opd, putT, put, nth, forgetL, extract, getO, List.getElem?_cons_succ, List.getElem?_cons_zero]
  refine run_draw.2 ⟨rfl, ?_⟩
  simp only [fe_cons, fe_guard, fego_some, feg_bool, feg_tt, fev_pure, execOp, opd, ofValue, putT, put, nth, bor, binInt, shiftB, intOp, List.getElem?_cons_succ, List.getElem?_cons_zero, Nat.reduceAdd, decide_true, Nat.zero_add, beq_self_eq_true]
  rw [fev_rd (kA.all ti25 rfl rfl), range4]
  simp only [fe_guard, fego_some, feg_bool, feg_tt, hkr, execOp, opd, opds, ofValue, putT, put, nth, doCall, callV_func, List.getElem?_cons_succ, List.getElem?_cons_zero, List.nil_append, List.append_nil, Nat.reduceAdd]
  refine fev_free fr33 (f19 2 _ _ (by decide)) (f19 2 _ _ (by decide)) fun v34 h34x n34x hn34 fr34 ⟨e34, o34⟩ => ?_
  subst e34
  have kA := kA.keep (o34 _ (by omega))
  have kB := kB.keep (o34 _ (by omega))
  have kD := kD.keep (o34 _ (by omega))
  simp only [fe_cons, fe_guard, fego_some, feg_bool, feg_tt, fev_ask, fev_pure, core1, execOp, opd, ofValue, putT, put, nth, bor, binInt, binOther, shiftB, intOp, doPick, branch, List.getElem?_cons_succ, List.getElem?_cons_zero, Nat.reduceAdd, decide_true, beq_self_eq_true, W, eq_same (a := 2) (by decide)]
  rw [fev_rd (kB.all ti25 rfl rfl), range4]
  simp only [fe_guard, fego_some, feg_bool, feg_tt, hkr, execOp, opd, opds, ofValue, putT, put, nth, doCall, callV_func, List.getElem?_cons_succ, List.getElem?_cons_zero, List.nil_append, List.append_nil, Nat.reduceAdd]
  refine fev_free fr34 (f19 1 _ _ (by decide)) (f19 1 _ _ (by decide)) fun v35 h35x n35x hn35 fr35 ⟨e35, o35⟩ => ?_
  subst e35
  have kA := kA.keep (o35 _ (by omega))
  have kB := kB.keep (o35 _ (by omega))
  have kD := kD.keep (o35 _ (by omega))
  simp only [fe_cons, fe_guard, fego_some, feg_bool, feg_tt, fev_ask, fev_pure, core1, execOp, opd, ofValue, putT, put, nth, bor, binInt, binOther, shiftB, intOp, doPick, branch, List.getElem?_cons_succ, List.getElem?_cons_zero, Nat.reduceAdd, decide_true, beq_self_eq_true, W, eq_same (a := 1) (by decide)]
  rw [fev_rd (kD.all ti25 rfl rfl), range4]
  simp only [fe_guard, fego_some, feg_bool, feg_tt, hkr, execOp, opd, opds, ofValue, putT, put, nth, doCall, callV_func, List.getElem?_cons_succ, List.getElem?_cons_zero, List.nil_append, List.append_nil, Nat.reduceAdd]
  refine fev_free fr35 (f36 1 255 _ _ (by decide) Free.none) (f36 1 255 _ _ (by decide) fr35) fun v36 h36x n36x hn36 fr36 ⟨e36, o36⟩ => ?_
  subst e36
  have kA := kA.keep (o36 _ (by omega))
  have kB := kB.keep (o36 _ (by omega))
  have kD := kD.keep (o36 _ (by omega))
  rw [tm_1_255]
  simp only [fe_nil, fe_cons, fe_guard, fego_some, feg_bool, feg_tt, fev_ask, fev_pure, core1, fgr, hkr, execOp, opd, opds, ofValue, putT, put, nth, forgetL, doCall, callV_func, bor, binInt, binOther, shiftB, intOp, doPick, branch, List.getElem?_cons_succ, List.getElem?_cons_zero, List.nil_append, List.append_nil, Nat.reduceAdd, decide_true, beq_self_eq_true, W, eq_same (a := 57896044618658097711785492504343953926634992332820282019728792003956564819968) (by decide)]
  refine ⟨(by (try simp (disch := omega) only [fine, List.all_cons, List.all_nil, clash_pl, clash_pr, clash_rr, Bool.not_false, Bool.true_or, Bool.and_true, clash_nn, clash_xn, clash_nx]); repeat' (first | rfl | exact (Bool.or_eq_true _ _).mpr (.inr rfl) | refine (Bool.and_eq_true _ _).mpr ⟨?_, ?_⟩)), ?_⟩
  refine opv_callf fr36 (f12 .nils [] _ _ (by decide) (fun h' _ => ArgW.nils.r h') fr36) fun v37 h37x n37x hn37 fr37 ⟨e37, o37⟩ => ?_
  subst e37
  have kD := kD.keep (o37 _ (by omega))
  rw [sum_nil]
  simp only [core1, hkr, execOp, opd, opds, ofValue, ops2, putT, put, nth, doCall, callV_func, bor, binOther, List.getElem?_cons_succ, List.getElem?_cons_zero, List.nil_append, List.append_nil, hb0, W0, eq_00]
  refine opv_callf fr37 (f19 2 _ _ (by decide)) fun v38 h38x n38x hn38 fr38 ⟨e38, o38⟩ => ?_
  subst e38
  have kD := kD.keep (o38 _ (by omega))
  simp only [core1, hkr, execOp, opd, opds, ofValue, putT, put, nth, doCall, callV_func, List.getElem?_cons_succ, List.getElem?_cons_zero, List.nil_append, List.append_nil]
  refine opv_callf fr38 (f19 3 _ _ (by decide)) fun v39 h39x n39x hn39 fr39 ⟨e39, o39⟩ => ?_
  subst e39
  have kD := kD.keep (o39 _ (by omega))
  simp only [core1, hkr, execOp, opd, opds, ofValue, putT, put, nth, doCall, callV_func, List.getElem?_cons_succ, List.getElem?_cons_zero, List.nil_append, List.append_nil]
  refine opv_callf fr39 (f19 4 _ _ (by decide)) fun v40 h40x n40x hn40 fr40 ⟨e40, o40⟩ => ?_
  subst e40
  have kD := kD.keep (o40 _ (by omega))
  simp (disch := omega) only [core1, tyr, hkr, execOp, opd, opds, ops2, putT, put, nth, doCall, callV_func, und, cel, newRow, getO, List.getElem?_cons_succ, List.getElem?_cons_zero, List.cons_append, List.nil_append, List.append_nil, List.length_cons, List.length_nil, Nat.reduceAdd, Nat.beq, Bool.not_false, Bool.and_true, Bool.true_and, Nat.zero_add, Nat.zero_mul, buildSlice, reps, fill, List.take_succ_cons, List.take_zero, List.drop_succ_cons, List.drop_zero, Nat.reduceMul, Nat.ble, Nat.one_mul, List.length_cons, List.length_nil, Nat.zero_mul, W]
  have fw41 := fr40.new (b := some (Blk.row (Cont.l [.int .u64 (wd 2 0 : Nat), .int .u64 (wd 2 1 : Nat), .int .u64 (wd 2 2 : Nat), .int .u64 (wd 2 3 : Nat), .int .u64 (wd 3 0 : Nat), .int .u64 (wd 3 1 : Nat), .int .u64 (wd 3 2 : Nat), .int .u64 (wd 3 3 : Nat), .int .u64 (wd 4 0 : Nat), .int .u64 (wd 4 1 : Nat), .int .u64 (wd 4 2 : Nat), .int .u64 (wd 4 3 : Nat)]) 25))
  have kD := kD.upd (i := n40x) (b := some (Blk.row (Cont.l [.int .u64 (wd 2 0 : Nat), .int .u64 (wd 2 1 : Nat), .int .u64 (wd 2 2 : Nat), .int .u64 (wd 2 3 : Nat), .int .u64 (wd 3 0 : Nat), .int .u64 (wd 3 1 : Nat), .int .u64 (wd 3 2 : Nat), .int .u64 (wd 3 3 : Nat), .int .u64 (wd 4 0 : Nat), .int .u64 (wd 4 1 : Nat), .int .u64 (wd 4 2 : Nat), .int .u64 (wd 4 3 : Nat)]) 25)) (by omega)
  refine opv_callf fw41 (f12 _ [2, 3, 4] _ _ (by decide) (fun h' hh' => ws3 ((hh' n40x (by omega)).trans (upd_same _ _ _)) (by decide) (by decide) (by decide)) fw41) fun v41 h41x n41x hn41 fr41 ⟨e41, o41⟩ => ?_
  subst e41
  have kD := kD.keep (o41 _ (by omega))
  rw [sm_2_3_4]
  simp only [core1, hkr, execOp, opd, opds, ofValue, putT, put, nth, doCall, callV_func, List.getElem?_cons_succ, List.getElem?_cons_zero, List.nil_append, List.append_nil]
  refine opv_callf fr41 (f19 9 _ _ (by decide)) fun v42 h42x n42x hn42 fr42 ⟨e42, o42⟩ => ?_
  subst e42
  have kD := kD.keep (o42 _ (by omega))
  simp only [core1, execOp, opd, ofValue, putT, put, nth, bor, binOther, doPick, branch, List.getElem?_cons_succ, List.getElem?_cons_zero, W, eq_same (a := 9) (by decide)]
  rw [opv_rd (kD.all ti25 rfl rfl), range4]
  simp only [core1, execOp, opd, putT, put, nth, List.getElem?_cons_succ, List.getElem?_cons_zero]
  rw [opv_rd (kD.all ti25 rfl rfl), range4]
  simp (disch := omega) only [core1, tyr, hkr, execOp, opd, opds, ops2, putT, put, nth, doCall, callV_func, und, cel, newRow, getO, List.getElem?_cons_succ, List.getElem?_cons_zero, List.cons_append, List.nil_append, List.append_nil, List.length_cons, List.length_nil, Nat.reduceAdd, Nat.beq, Bool.not_false, Bool.and_true, Bool.true_and, Nat.zero_add, Nat.zero_mul, buildSlice, reps, fill, List.take_succ_cons, List.take_zero, List.drop_succ_cons, List.drop_zero, Nat.ble, Nat.one_mul, List.length_cons, List.length_nil, Nat.zero_mul]
  have fw43 := fr42.new (b := some (Blk.row (Cont.l [.int .u64 (wd 57896044618658097711785492504343953926634992332820282019728792003956564819968 0 : Nat), .int .u64 (wd 57896044618658097711785492504343953926634992332820282019728792003956564819968 1 : Nat), .int .u64 (wd 57896044618658097711785492504343953926634992332820282019728792003956564819968 2 : Nat), .int .u64 (wd 57896044618658097711785492504343953926634992332820282019728792003956564819968 3 : Nat), .int .u64 (wd 57896044618658097711785492504343953926634992332820282019728792003956564819968 0 : Nat), .int .u64 (wd 57896044618658097711785492504343953926634992332820282019728792003956564819968 1 : Nat), .int .u64 (wd 57896044618658097711785492504343953926634992332820282019728792003956564819968 2 : Nat), .int .u64 (wd 57896044618658097711785492504343953926634992332820282019728792003956564819968 3 : Nat)]) 25))
  have kD := kD.upd (i := n42x) (b := some (Blk.row (Cont.l [.int .u64 (wd 57896044618658097711785492504343953926634992332820282019728792003956564819968 0 : Nat), .int .u64 (wd 57896044618658097711785492504343953926634992332820282019728792003956564819968 1 : Nat), .int .u64 (wd 57896044618658097711785492504343953926634992332820282019728792003956564819968 2 : Nat), .int .u64 (wd 57896044618658097711785492504343953926634992332820282019728792003956564819968 3 : Nat), .int .u64 (wd 57896044618658097711785492504343953926634992332820282019728792003956564819968 0 : Nat), .int .u64 (wd 57896044618658097711785492504343953926634992332820282019728792003956564819968 1 : Nat), .int .u64 (wd 57896044618658097711785492504343953926634992332820282019728792003956564819968 2 : Nat), .int .u64 (wd 57896044618658097711785492504343953926634992332820282019728792003956564819968 3 : Nat)]) 25)) (by omega)
  refine opv_callf fw43 (f12 _ [57896044618658097711785492504343953926634992332820282019728792003956564819968, 57896044618658097711785492504343953926634992332820282019728792003956564819968] _ _ (by decide) (fun h' hh' => ws2 ((hh' n42x (by omega)).trans (upd_same _ _ _)) (by decide) (by decide)) fw43) fun v43 h43x n43x hn43 fr43 ⟨e43, o43⟩ => ?_
  subst e43
  have kD := kD.keep (o43 _ (by omega))
  rw [sm_968_968]
  simp only [core1, hkr, execOp, opd, opds, ops2, putT, put, nth, doCall, callV_func, List.getElem?_cons_succ, List.getElem?_cons_zero, List.nil_append, List.append_nil, hb0]
  refine opv_callf fr43 (f38 0 _ _ (by decide) fr43) fun v44 h44x n44x hn44 fr44 ⟨e44, o44⟩ => ?_
  subst e44
  have kD := kD.keep (o44 _ (by omega))
  rw [not_0]
  simp only [core1, hkr, execOp, opd, opds, ofValue, ops2, putT, put, nth, doCall, callV_func, bor, binOther, doPick, branch, List.getElem?_cons_succ, List.getElem?_cons_zero, List.nil_append, List.append_nil, W, eq_same (a := 115792089237316195423570985008687907853269984665640564039457584007913129639935) (by decide), hb0]
  refine opv_callf fr44 (f38 0 _ _ (by decide) fr44) fun v45 h45x n45x hn45 fr45 ⟨e45, o45⟩ => ?_
  subst e45
  have kD := kD.keep (o45 _ (by omega))
  rw [not_0]
  simp only [core1, hkr, execOp, opd, opds, ofValue, putT, put, nth, doCall, callV_func, List.getElem?_cons_succ, List.getElem?_cons_zero, List.nil_append, List.append_nil]
  refine opv_callf fr45 (f19 0 _ _ (by decide)) fun v46 h46x n46x hn46 fr46 ⟨e46, o46⟩ => ?_
  subst e46
  have kD := kD.keep (o46 _ (by omega))
  simp (disch := omega) only [core1, tyr, hkr, execOp, opd, opds, ops2, putT, put, nth, doCall, callV_func, und, cel, newRow, getO, List.getElem?_cons_succ, List.getElem?_cons_zero, List.cons_append, List.nil_append, List.append_nil, List.length_cons, List.length_nil, Nat.reduceAdd, Nat.beq, Bool.not_false, Bool.and_true, Bool.true_and, Nat.zero_add, Nat.zero_mul, buildSlice, reps, fill, List.take_succ_cons, List.take_zero, List.drop_succ_cons, List.drop_zero, Nat.ble, Nat.one_mul, List.length_cons, List.length_nil, Nat.zero_mul, W]
  have fw47 := fr46.new (b := some (Blk.row (Cont.l [.int .u64 (wd 115792089237316195423570985008687907853269984665640564039457584007913129639935 0 : Nat), .int .u64 (wd 115792089237316195423570985008687907853269984665640564039457584007913129639935 1 : Nat), .int .u64 (wd 115792089237316195423570985008687907853269984665640564039457584007913129639935 2 : Nat), .int .u64 (wd 115792089237316195423570985008687907853269984665640564039457584007913129639935 3 : Nat), .int .u64 (wd 0 0 : Nat), .int .u64 (wd 0 1 : Nat), .int .u64 (wd 0 2 : Nat), .int .u64 (wd 0 3 : Nat)]) 25))
  have kD := kD.upd (i := n46x) (b := some (Blk.row (Cont.l [.int .u64 (wd 115792089237316195423570985008687907853269984665640564039457584007913129639935 0 : Nat), .int .u64 (wd 115792089237316195423570985008687907853269984665640564039457584007913129639935 1 : Nat), .int .u64 (wd 115792089237316195423570985008687907853269984665640564039457584007913129639935 2 : Nat), .int .u64 (wd 115792089237316195423570985008687907853269984665640564039457584007913129639935 3 : Nat), .int .u64 (wd 0 0 : Nat), .int .u64 (wd 0 1 : Nat), .int .u64 (wd 0 2 : Nat), .int .u64 (wd 0 3 : Nat)]) 25)) (by omega)
  refine opv_callf fw47 (f12 _ [115792089237316195423570985008687907853269984665640564039457584007913129639935, 0] _ _ (by decide) (fun h' hh' => ws2 ((hh' n46x (by omega)).trans (upd_same _ _ _)) (by decide) (by decide)) fw47) fun v47 h47x n47x hn47 fr47 ⟨e47, o47⟩ => ?_
  subst e47
  have kD := kD.keep (o47 _ (by omega))
  rw [sm_935_0]
  simp only [core1, hkr, execOp, opd, opds, ops2, putT, put, nth, doCall, callV_func, List.getElem?_cons_succ, List.getElem?_cons_zero, List.nil_append, List.append_nil, hb0]
  refine opv_callf fr47 (f38 0 _ _ (by decide) fr47) fun v48 h48x n48x hn48 fr48 ⟨e48, o48⟩ => ?_
  subst e48
  have kD := kD.keep (o48 _ (by omega))
  rw [not_0]
  simp only [core1, tyr, fgr, execOp, opd, ofValue, putT, put, nth, forgetL, zeroOf, bor, binOther, doPick, branch, cel, alloc, doAlloc, newRow, List.getElem?_cons_succ, List.getElem?_cons_zero, W, eq_same (a := 115792089237316195423570985008687907853269984665640564039457584007913129639935) (by decide)]
  rw [opv_rd (arr_idx (z := 1) (j := 1) t47 s5 rfl (by decide))]
  simp only [core1, execOp, opd, ofValue, putT, put, nth]
  refine opv_arr (arr_cells (k := .u8) (m := 32) (g := fun _ => 0) (upd_same _ _ _)) ti5 rfl (j := 1) (by decide) fun bH kH => ?_
  have kH := hashH kH
  have fH : Free (upd (upd h48x n48x (some (Blk.row (Cont.l (cellsF .u8 32 (fun _ => 0))) 47))) n48x (some bH)) (n48x + 1) := fr48.new.upd (by omega)
  generalize hHE : upd (upd h48x n48x _) n48x (some bH) = HH at *
  have fH : Free HH (n48x + 1) := by rw [← hHE]; exact fr48.new.upd (by omega)
  clear hHE
  simp only [core1, fgr, putT, forgetL]
  refine run_draw.2 ⟨rfl, ?_⟩
  simp only [fe_cons, execOp, opd, nth]
  rw [fev_rd (rhash kH)]
  simp only [fe_cons, hkr, execOp, opd, opds, ofValue, putT, put, doCall, callV_func, List.nil_append, List.append_nil, Nat.zero_add]
  refine fev_free fH (f19 256 _ _ (by decide)) (f19 256 _ _ (by decide)) fun v49 h49x n49x hn49 fr49 ⟨e49, o49⟩ => ?_
  subst e49
  have kH := kH.keep (o49 _ (by omega))
  simp only [fe_cons, hkr, execOp, opd, opds, putT, put, nth, doCall, callV_func, List.nil_append, List.append_nil, Nat.reduceAdd]
  refine fev_free fr49 (f25 gH gH_lt 256 _ _ (by decide) Free.none) (f25 gH gH_lt 256 _ _ (by decide) fr49) fun v50 h50x n50x hn50 fr50 ⟨e50, o50⟩ => ?_
  subst e50
  have kH := kH.keep (o50 _ (by omega))
  rw [gH_256]
  simp only [fe_cons, fe_guard, fego_some, feg_bool, feg_tt, fev_pure, execOp, opd, putT, put, nth, List.getElem?_cons_succ, List.getElem?_cons_zero, Nat.reduceAdd]
  rw [fev_rd (rhash kH)]
  simp only [fe_guard, fego_some, feg_bool, feg_tt, hkr, execOp, opd, opds, ofValue, putT, put, nth, doCall, callV_func, List.getElem?_cons_succ, List.getElem?_cons_zero, List.nil_append, List.append_nil, Nat.reduceAdd]
  refine fev_free fr50 (f19 255 _ _ (by decide)) (f19 255 _ _ (by decide)) fun v51 h51x n51x hn51 fr51 ⟨e51, o51⟩ => ?_
  subst e51
  have kH := kH.keep (o51 _ (by omega))
  simp only [fe_guard, fego_some, feg_bool, feg_tt, hkr, execOp, opd, opds, putT, put, nth, doCall, callV_func, List.getElem?_cons_succ, List.getElem?_cons_zero, List.nil_append, List.append_nil, Nat.reduceAdd]
  refine fev_free fr51 (f25 gH gH_lt 255 _ _ (by decide) Free.none) (f25 gH gH_lt 255 _ _ (by decide) fr51) fun v52 h52x n52x hn52 fr52 ⟨e52, o52⟩ => ?_
  subst e52
  have kH := kH.keep (o52 _ (by omega))
  rw [gH_255]
  simp only [fe_cons, fe_guard, fego_some, feg_bool, feg_tt, fev_ask, fev_pure, hkr, execOp, opd, opds, ofValue, ops2, putT, put, nth, doCall, callV_func, unOp, doPick, branch, List.getElem?_cons_succ, List.getElem?_cons_zero, List.nil_append, List.append_nil, Nat.reduceAdd, Int.cast_ofNat_Int, Bool.not_false, hb0, hb47]
  refine fev_free fr52 (f25 (fun _ => 0) (fun _ _ => by decide) 0 _ _ (by decide) Free.none) (f25 (fun _ => 0) (fun _ _ => by decide) 0 _ _ (by decide) fr52) fun v53 h53x n53x hn53 fr53 ⟨e53, o53⟩ => ?_
  subst e53
  have kH := kH.keep (o53 _ (by omega))
  rw [g0_0]
  simp only [fe_nil, fe_cons, fev_ask, fev_pure, core1, fgr, hkr, execOp, opd, opds, ofValue, putT, put, nth, forgetL, doCall, callV_func, doPick, branch, List.nil_append, List.append_nil, Nat.reduceAdd]
  refine ⟨(by (try simp (disch := omega) only [fine, List.all_cons, List.all_nil, clash_pl, clash_pr, clash_rr, Bool.not_false, Bool.true_or, Bool.and_true, clash_nn, clash_xn, clash_nx]); repeat' (first | rfl | exact (Bool.or_eq_true _ _).mpr (.inr rfl) | refine (Bool.and_eq_true _ _).mpr ⟨?_, ?_⟩)), ?_⟩
  refine opv_callf fr53 (f19 100 _ _ (by decide)) fun v54 h54x n54x hn54 fr54 ⟨e54, o54⟩ => ?_
  subst e54
  simp only [core1, hkr, execOp, opd, opds, ofValue, putT, put, doCall, callV_func, List.nil_append, List.append_nil]
  refine opv_callf fr54 (f19 1000 _ _ (by decide)) fun v55 h55x n55x hn55 fr55 ⟨e55, o55⟩ => ?_
  subst e55
  simp only [core1, hkr, execOp, opd, opds, ofValue, putT, put, nth, doCall, callV_func, List.nil_append, List.append_nil]
  refine opv_callf fr55 (f10 100 3 7 1000 _ _ (by decide) (by decide) (by decide) (by decide) fr55) fun v56 h56x n56x hn56 fr56 ⟨e56, o56⟩ => ?_
  subst e56
  rw [scaleA_eq]
  rw [sq_100_3_7_0]
  rw [se_100_3_7_0]
  simp only [core1, tyr, execOp, opd, putT, put, nth, zeroOf, cel, alloc, doAlloc, newRow, extract, getO, List.getElem?_cons_succ, List.getElem?_cons_zero, W]
  refine opv_all4 (arr_0 (upd_same _ _ _)) ti25 rfl fun bE kE => ?_
  have kE := pick_wd kE
  have sE : ∀ j, j < n56x → (upd (upd h56x n56x (some (Blk.row (Cont.l [AVal.int IntKind.u64 0, AVal.int IntKind.u64 0, AVal.int IntKind.u64 0, AVal.int IntKind.u64 0]) 25))) n56x (some bE)) j = h56x j := fun j hj => by rw [upd_ne _ _ (by omega), upd_ne _ _ (by omega)]
  have fE : Free (upd (upd h56x n56x (some (Blk.row (Cont.l [AVal.int IntKind.u64 0, AVal.int IntKind.u64 0, AVal.int IntKind.u64 0, AVal.int IntKind.u64 0]) 25))) n56x (some bE)) (n56x + 1) := fr56.new.upd (by omega)
  generalize (upd (upd h56x n56x (some (Blk.row (Cont.l [AVal.int IntKind.u64 0, AVal.int IntKind.u64 0, AVal.int IntKind.u64 0, AVal.int IntKind.u64 0]) 25))) n56x (some bE)) = HE at *
  simp only [core1, fgr, hkr, execOp, opd, opds, ofValue, putT, put, nth, forgetL, doCall, callV_func, List.nil_append, List.append_nil]
  refine opv_callf fE (f19 100 _ _ (by decide)) fun v57 h57x n57x hn57 fr57 ⟨e57, o57⟩ => ?_
  subst e57
  have kE := kE.keep (o57 _ (by omega))
  simp only [core1, hkr, execOp, opd, opds, ofValue, putT, put, doCall, callV_func, List.nil_append, List.append_nil]
  refine opv_callf fr57 (f19 42 _ _ (by decide)) fun v58 h58x n58x hn58 fr58 ⟨e58, o58⟩ => ?_
  subst e58
  have kE := kE.keep (o58 _ (by omega))
  simp only [core1, hkr, execOp, opd, opds, ofValue, putT, put, nth, doCall, callV_func, List.nil_append, List.append_nil]
  refine opv_callf fr58 (f10 100 3 7 42 _ _ (by decide) (by decide) (by decide) (by decide) fr58) fun v59 h59x n59x hn59 fr59 ⟨e59, o59⟩ => ?_
  subst e59
  have kE := kE.keep (o59 _ (by omega))
  rw [scaleA_eq]
  rw [sq_100_3_7_42]
  rw [se_100_3_7_42]
  simp only [core1, tyr, execOp, opd, putT, put, nth, zeroOf, cel, alloc, doAlloc, newRow, extract, getO, List.getElem?_cons_succ, List.getElem?_cons_zero, W]
  refine opv_all4 (arr_0 (upd_same _ _ _)) ti25 rfl fun bF kF => ?_
  have kF := pick_wd kF
  have sF : ∀ j, j < n59x → (upd (upd h59x n59x (some (Blk.row (Cont.l [AVal.int IntKind.u64 0, AVal.int IntKind.u64 0, AVal.int IntKind.u64 0, AVal.int IntKind.u64 0]) 25))) n59x (some bF)) j = h59x j := fun j hj => by rw [upd_ne _ _ (by omega), upd_ne _ _ (by omega)]
  have fF : Free (upd (upd h59x n59x (some (Blk.row (Cont.l [AVal.int IntKind.u64 0, AVal.int IntKind.u64 0, AVal.int IntKind.u64 0, AVal.int IntKind.u64 0]) 25))) n59x (some bF)) (n59x + 1) := fr59.new.upd (by omega)
  generalize (upd (upd h59x n59x (some (Blk.row (Cont.l [AVal.int IntKind.u64 0, AVal.int IntKind.u64 0, AVal.int IntKind.u64 0, AVal.int IntKind.u64 0]) 25))) n59x (some bF)) = HF at *
  have kE := kE.keep (sF _ (by omega))
  simp only [core1, fgr, hkr, execOp, opd, opds, ofValue, putT, put, nth, forgetL, doCall, callV_func, List.nil_append, List.append_nil]
  refine opv_callf fF (f19 1 _ _ (by decide)) fun v60 h60x n60x hn60 fr60 ⟨e60, o60⟩ => ?_
  subst e60
  have kE := kE.keep (o60 _ (by omega))
  have kF := kF.keep (o60 _ (by omega))
  simp only [core1, hkr, execOp, opd, opds, ofValue, putT, put, doCall, callV_func, List.nil_append, List.append_nil]
  refine opv_callf fr60 (f19 9 _ _ (by decide)) fun v61 h61x n61x hn61 fr61 ⟨e61, o61⟩ => ?_
  subst e61
  have kE := kE.keep (o61 _ (by omega))
  have kF := kF.keep (o61 _ (by omega))
  simp only [core1, hkr, execOp, opd, opds, ofValue, putT, put, nth, doCall, callV_func, List.nil_append, List.append_nil]
  refine opv_callf fr61 (f10 1 1 2 9 _ _ (by decide) (by decide) (by decide) (by decide) fr61) fun v62 h62x n62x hn62 fr62 ⟨e62, o62⟩ => ?_
  subst e62
  have kE := kE.keep (o62 _ (by omega))
  have kF := kF.keep (o62 _ (by omega))
  rw [scaleA_eq]
  rw [sq_1_1_2_9]
  rw [se_1_1_2_9]
  simp only [core1, tyr, execOp, opd, putT, put, nth, zeroOf, cel, alloc, doAlloc, newRow, extract, getO, List.getElem?_cons_succ, List.getElem?_cons_zero, W]
  refine opv_all4 (arr_0 (upd_same _ _ _)) ti25 rfl fun bG kG => ?_
  have kG := pick_wd kG
  have sG : ∀ j, j < n62x → (upd (upd h62x n62x (some (Blk.row (Cont.l [AVal.int IntKind.u64 0, AVal.int IntKind.u64 0, AVal.int IntKind.u64 0, AVal.int IntKind.u64 0]) 25))) n62x (some bG)) j = h62x j := fun j hj => by rw [upd_ne _ _ (by omega), upd_ne _ _ (by omega)]
  have fG : Free (upd (upd h62x n62x (some (Blk.row (Cont.l [AVal.int IntKind.u64 0, AVal.int IntKind.u64 0, AVal.int IntKind.u64 0, AVal.int IntKind.u64 0]) 25))) n62x (some bG)) (n62x + 1) := fr62.new.upd (by omega)
  generalize (upd (upd h62x n62x (some (Blk.row (Cont.l [AVal.int IntKind.u64 0, AVal.int IntKind.u64 0, AVal.int IntKind.u64 0, AVal.int IntKind.u64 0]) 25))) n62x (some bG)) = HG at *
  have kE := kE.keep (sG _ (by omega))
  have kF := kF.keep (sG _ (by omega))
  simp only [core1, fgr, hkr, execOp, opd, opds, ofValue, putT, put, nth, forgetL, doCall, callV_func, List.nil_append, List.append_nil]
  refine opv_callf fG (f36 1 255 _ _ (by decide) fG) fun v63 h63x n63x hn63 fr63 ⟨e63, o63⟩ => ?_
  subst e63
  have kE := kE.keep (o63 _ (by omega))
  have kF := kF.keep (o63 _ (by omega))
  have kG := kG.keep (o63 _ (by omega))
  rw [tm_1_255]
  simp only [core1, hkr, execOp, opd, opds, ops2, putT, put, nth, doCall, callV_func, List.nil_append, List.append_nil, hb0]
  refine opv_callf fr63 (f38 0 _ _ (by decide) fr63) fun v64 h64x n64x hn64 fr64 ⟨e64, o64⟩ => ?_
  subst e64
  have kE := kE.keep (o64 _ (by omega))
  have kF := kF.keep (o64 _ (by omega))
  have kG := kG.keep (o64 _ (by omega))
  rw [not_0]
  simp only [core1, hkr, execOp, opd, opds, ofValue, putT, put, nth, doCall, callV_func, List.nil_append, List.append_nil]
  refine opv_callf fr64 (f10 57896044618658097711785492504343953926634992332820282019728792003956564819968 4 1 115792089237316195423570985008687907853269984665640564039457584007913129639935 _ _ (by decide) (by decide) (by decide) (by decide) fr64) fun v65 h65x n65x hn65 fr65 ⟨e65, o65⟩ => ?_
  subst e65
  have kE := kE.keep (o65 _ (by omega))
  have kF := kF.keep (o65 _ (by omega))
  have kG := kG.keep (o65 _ (by omega))
  rw [scaleA_eq]
  rw [sq_968_4_1_935]
  rw [se_968_4_1_935]
  simp only [core1, tyr, execOp, opd, putT, put, nth, zeroOf, cel, alloc, doAlloc, newRow, extract, getO, List.getElem?_cons_succ, List.getElem?_cons_zero, W]
  refine opv_all4 (arr_0 (upd_same _ _ _)) ti25 rfl fun bI kI => ?_
  have kI := pick_wd kI
  have sI : ∀ j, j < n65x → (upd (upd h65x n65x (some (Blk.row (Cont.l [AVal.int IntKind.u64 0, AVal.int IntKind.u64 0, AVal.int IntKind.u64 0, AVal.int IntKind.u64 0]) 25))) n65x (some bI)) j = h65x j := fun j hj => by rw [upd_ne _ _ (by omega), upd_ne _ _ (by omega)]
  have fI : Free (upd (upd h65x n65x (some (Blk.row (Cont.l [AVal.int IntKind.u64 0, AVal.int IntKind.u64 0, AVal.int IntKind.u64 0, AVal.int IntKind.u64 0]) 25))) n65x (some bI)) (n65x + 1) := fr65.new.upd (by omega)
  generalize (upd (upd h65x n65x (some (Blk.row (Cont.l [AVal.int IntKind.u64 0, AVal.int IntKind.u64 0, AVal.int IntKind.u64 0, AVal.int IntKind.u64 0]) 25))) n65x (some bI)) = HI at *
  have kE := kE.keep (sI _ (by omega))
  have kF := kF.keep (sI _ (by omega))
  have kG := kG.keep (sI _ (by omega))
  simp only [core1, fgr, hkr, execOp, opd, opds, ofValue, ops2, putT, put, nth, forgetL, doCall, callV_func, List.nil_append, List.append_nil, hb0]
  refine opv_callf fI (f19 1 _ _ (by decide)) fun v66 h66x n66x hn66 fr66 ⟨e66, o66⟩ => ?_
  subst e66
  have kE := kE.keep (o66 _ (by omega))
  have kF := kF.keep (o66 _ (by omega))
  have kG := kG.keep (o66 _ (by omega))
  have kI := kI.keep (o66 _ (by omega))
  simp only [core1, hkr, execOp, opd, opds, ofValue, putT, put, nth, doCall, callV_func, List.nil_append, List.append_nil]
  refine opv_callf fr66 (f10 0 1 1 1 _ _ (by decide) (by decide) (by decide) (by decide) fr66) fun v67 h67x n67x hn67 fr67 ⟨e67, o67⟩ => ?_
  subst e67
  have kE := kE.keep (o67 _ (by omega))
  have kF := kF.keep (o67 _ (by omega))
  have kG := kG.keep (o67 _ (by omega))
  have kI := kI.keep (o67 _ (by omega))
  rw [scaleA_eq]
  rw [sq_0_1_1_1]
  rw [se_0_1_1_1]
  simp only [core1, tyr, execOp, opd, putT, put, nth, zeroOf, cel, alloc, doAlloc, newRow, extract, getO, List.getElem?_cons_succ, List.getElem?_cons_zero, W]
  refine opv_all4 (arr_0 (upd_same _ _ _)) ti25 rfl fun bJ kJ => ?_
  have kJ := pick_wd kJ
  have sJ : ∀ j, j < n67x → (upd (upd h67x n67x (some (Blk.row (Cont.l [AVal.int IntKind.u64 0, AVal.int IntKind.u64 0, AVal.int IntKind.u64 0, AVal.int IntKind.u64 0]) 25))) n67x (some bJ)) j = h67x j := fun j hj => by rw [upd_ne _ _ (by omega), upd_ne _ _ (by omega)]
  have fJ : Free (upd (upd h67x n67x (some (Blk.row (Cont.l [AVal.int IntKind.u64 0, AVal.int IntKind.u64 0, AVal.int IntKind.u64 0, AVal.int IntKind.u64 0]) 25))) n67x (some bJ)) (n67x + 1) := fr67.new.upd (by omega)
  generalize (upd (upd h67x n67x (some (Blk.row (Cont.l [AVal.int IntKind.u64 0, AVal.int IntKind.u64 0, AVal.int IntKind.u64 0, AVal.int IntKind.u64 0]) 25))) n67x (some bJ)) = HJ at *
  have kE := kE.keep (sJ _ (by omega))
  have kF := kF.keep (sJ _ (by omega))
  have kG := kG.keep (sJ _ (by omega))
  have kI := kI.keep (sJ _ (by omega))
  simp only [core1, fgr, hkr, execOp, opd, opds, ofValue, putT, put, nth, forgetL, doCall, callV_func, List.nil_append, List.append_nil]
  refine opv_callf fJ (f19 1 _ _ (by decide)) fun v68 h68x n68x hn68 fr68 ⟨e68, o68⟩ => ?_
  subst e68
  have kE := kE.keep (o68 _ (by omega))
  have kF := kF.keep (o68 _ (by omega))
  have kG := kG.keep (o68 _ (by omega))
  have kI := kI.keep (o68 _ (by omega))
  simp only [core1, hkr, execOp, opd, opds, ofValue, putT, put, doCall, callV_func, List.nil_append, List.append_nil]
  refine opv_callf fr68 (f19 1 _ _ (by decide)) fun v69 h69x n69x hn69 fr69 ⟨e69, o69⟩ => ?_
  subst e69
  have kE := kE.keep (o69 _ (by omega))
  have kF := kF.keep (o69 _ (by omega))
  have kG := kG.keep (o69 _ (by omega))
  have kI := kI.keep (o69 _ (by omega))
  simp only [core1, hkr, execOp, opd, opds, ofValue, putT, put, nth, doCall, callV_func, List.nil_append, List.append_nil]
  refine opv_callf fr69 (f10 1 0 1 1 _ _ (by decide) (by decide) (by decide) (by decide) fr69) fun v70 h70x n70x hn70 fr70 ⟨e70, o70⟩ => ?_
  subst e70
  have kE := kE.keep (o70 _ (by omega))
  have kF := kF.keep (o70 _ (by omega))
  have kG := kG.keep (o70 _ (by omega))
  have kI := kI.keep (o70 _ (by omega))
  rw [scaleA_eq]
  rw [sq_1_0_1_1]
  rw [se_1_0_1_1]
  simp only [core1, tyr, execOp, opd, putT, put, nth, zeroOf, cel, alloc, doAlloc, newRow, extract, getO, List.getElem?_cons_succ, List.getElem?_cons_zero, W]
  refine opv_all4 (arr_0 (upd_same _ _ _)) ti25 rfl fun bK kK => ?_
  have kK := pick_wd kK
  have sK : ∀ j, j < n70x → (upd (upd h70x n70x (some (Blk.row (Cont.l [AVal.int IntKind.u64 0, AVal.int IntKind.u64 0, AVal.int IntKind.u64 0, AVal.int IntKind.u64 0]) 25))) n70x (some bK)) j = h70x j := fun j hj => by rw [upd_ne _ _ (by omega), upd_ne _ _ (by omega)]
  have fK : Free (upd (upd h70x n70x (some (Blk.row (Cont.l [AVal.int IntKind.u64 0, AVal.int IntKind.u64 0, AVal.int IntKind.u64 0, AVal.int IntKind.u64 0]) 25))) n70x (some bK)) (n70x + 1) := fr70.new.upd (by omega)
  generalize (upd (upd h70x n70x (some (Blk.row (Cont.l [AVal.int IntKind.u64 0, AVal.int IntKind.u64 0, AVal.int IntKind.u64 0, AVal.int IntKind.u64 0]) 25))) n70x (some bK)) = HK at *
  have kE := kE.keep (sK _ (by omega))
  have kF := kF.keep (sK _ (by omega))
  have kG := kG.keep (sK _ (by omega))
  have kI := kI.keep (sK _ (by omega))
  simp only [core1, fgr, hkr, execOp, opd, opds, ofValue, putT, put, nth, forgetL, doCall, callV_func, List.nil_append, List.append_nil]
  refine opv_callf fK (f19 1 _ _ (by decide)) fun v71 h71x n71x hn71 fr71 ⟨e71, o71⟩ => ?_
  subst e71
  have kE := kE.keep (o71 _ (by omega))
  have kF := kF.keep (o71 _ (by omega))
  have kG := kG.keep (o71 _ (by omega))
  have kI := kI.keep (o71 _ (by omega))
  simp only [core1, hkr, execOp, opd, opds, ofValue, putT, put, doCall, callV_func, List.nil_append, List.append_nil]
  refine opv_callf fr71 (f19 1 _ _ (by decide)) fun v72 h72x n72x hn72 fr72 ⟨e72, o72⟩ => ?_
  subst e72
  have kE := kE.keep (o72 _ (by omega))
  have kF := kF.keep (o72 _ (by omega))
  have kG := kG.keep (o72 _ (by omega))
  have kI := kI.keep (o72 _ (by omega))
  simp only [core1, hkr, execOp, opd, opds, ofValue, putT, put, nth, doCall, callV_func, List.nil_append, List.append_nil]
  refine opv_callf fr72 (f10 1 1 1099511627777 1 _ _ (by decide) (by decide) (by decide) (by decide) fr72) fun v73 h73x n73x hn73 fr73 ⟨e73, o73⟩ => ?_
  subst e73
  have kE := kE.keep (o73 _ (by omega))
  have kF := kF.keep (o73 _ (by omega))
  have kG := kG.keep (o73 _ (by omega))
  have kI := kI.keep (o73 _ (by omega))
  rw [scaleA_eq]
  rw [sq_1_1_777_1]
  rw [se_1_1_777_1]
  simp only [core1, tyr, execOp, opd, putT, put, nth, zeroOf, cel, alloc, doAlloc, newRow, extract, getO, List.getElem?_cons_succ, List.getElem?_cons_zero, W]
  refine opv_all4 (arr_0 (upd_same _ _ _)) ti25 rfl fun bL kL => ?_
  have kL := pick_wd kL
  have sL : ∀ j, j < n73x → (upd (upd h73x n73x (some (Blk.row (Cont.l [AVal.int IntKind.u64 0, AVal.int IntKind.u64 0, AVal.int IntKind.u64 0, AVal.int IntKind.u64 0]) 25))) n73x (some bL)) j = h73x j := fun j hj => by rw [upd_ne _ _ (by omega), upd_ne _ _ (by omega)]
  have fL : Free (upd (upd h73x n73x (some (Blk.row (Cont.l [AVal.int IntKind.u64 0, AVal.int IntKind.u64 0, AVal.int IntKind.u64 0, AVal.int IntKind.u64 0]) 25))) n73x (some bL)) (n73x + 1) := fr73.new.upd (by omega)
  generalize (upd (upd h73x n73x (some (Blk.row (Cont.l [AVal.int IntKind.u64 0, AVal.int IntKind.u64 0, AVal.int IntKind.u64 0, AVal.int IntKind.u64 0]) 25))) n73x (some bL)) = HL at *
  have kE := kE.keep (sL _ (by omega))
  have kF := kF.keep (sL _ (by omega))
  have kG := kG.keep (sL _ (by omega))
  have kI := kI.keep (sL _ (by omega))
  simp only [core1, fgr, hkr, execOp, opd, opds, ofValue, putT, put, nth, forgetL, doCall, callV_func, List.nil_append, List.append_nil]
  refine opv_callf fL (f19 1 _ _ (by decide)) fun v74 h74x n74x hn74 fr74 ⟨e74, o74⟩ => ?_
  subst e74
  have kE := kE.keep (o74 _ (by omega))
  have kF := kF.keep (o74 _ (by omega))
  have kG := kG.keep (o74 _ (by omega))
  have kI := kI.keep (o74 _ (by omega))
  simp only [core1, hkr, execOp, opd, opds, ofValue, ops2, putT, put, nth, doCall, callV_func, List.nil_append, List.append_nil, hb0]
  refine opv_callf fr74 (f10 1 1 1 0 _ _ (by decide) (by decide) (by decide) (by decide) fr74) fun v75 h75x n75x hn75 fr75 ⟨e75, o75⟩ => ?_
  subst e75
  have kE := kE.keep (o75 _ (by omega))
  have kF := kF.keep (o75 _ (by omega))
  have kG := kG.keep (o75 _ (by omega))
  have kI := kI.keep (o75 _ (by omega))
  rw [scaleA_eq]
  rw [sq_1_1_1_0]
  rw [se_1_1_1_0]
  simp only [core1, tyr, execOp, opd, putT, put, nth, zeroOf, cel, alloc, doAlloc, newRow, extract, getO, List.getElem?_cons_succ, List.getElem?_cons_zero, W]
  refine opv_all4 (arr_0 (upd_same _ _ _)) ti25 rfl fun bM kM => ?_
  have kM := pick_wd kM
  have sM : ∀ j, j < n75x → (upd (upd h75x n75x (some (Blk.row (Cont.l [AVal.int IntKind.u64 0, AVal.int IntKind.u64 0, AVal.int IntKind.u64 0, AVal.int IntKind.u64 0]) 25))) n75x (some bM)) j = h75x j := fun j hj => by rw [upd_ne _ _ (by omega), upd_ne _ _ (by omega)]
  have fM : Free (upd (upd h75x n75x (some (Blk.row (Cont.l [AVal.int IntKind.u64 0, AVal.int IntKind.u64 0, AVal.int IntKind.u64 0, AVal.int IntKind.u64 0]) 25))) n75x (some bM)) (n75x + 1) := fr75.new.upd (by omega)
  generalize (upd (upd h75x n75x (some (Blk.row (Cont.l [AVal.int IntKind.u64 0, AVal.int IntKind.u64 0, AVal.int IntKind.u64 0, AVal.int IntKind.u64 0]) 25))) n75x (some bM)) = HM at *
  have kE := kE.keep (sM _ (by omega))
  have kF := kF.keep (sM _ (by omega))
  have kG := kG.keep (sM _ (by omega))
  have kI := kI.keep (sM _ (by omega))
  simp only [core1, fgr, execOp, opd, putT, put, nth, forgetL]
  refine run_draw.2 ⟨rfl, ?_⟩
  simp only [fe_cons, fe_guard, fego_some, feg_bool, feg_tt, fev_pure, execOp, opd, ofValue, putT, put, nth, bor, binInt, shiftB, intOp, List.getElem?_cons_succ, List.getElem?_cons_zero, Nat.reduceAdd, decide_true, Nat.zero_add, beq_self_eq_true]
  rw [fev_rd (kE.all ti25 rfl rfl), range4]
  simp only [fe_guard, fego_some, feg_bool, feg_tt, hkr, execOp, opd, opds, ofValue, putT, put, nth, doCall, callV_func, List.getElem?_cons_succ, List.getElem?_cons_zero, List.nil_append, List.append_nil, Nat.reduceAdd]
  refine fev_free fM (f19 42 _ _ (by decide)) (f19 42 _ _ (by decide)) fun v76 h76x n76x hn76 fr76 ⟨e76, o76⟩ => ?_
  subst e76
  have kE := kE.keep (o76 _ (by omega))
  have kF := kF.keep (o76 _ (by omega))
  have kG := kG.keep (o76 _ (by omega))
  have kI := kI.keep (o76 _ (by omega))
  simp only [fe_cons, fe_guard, fego_some, feg_bool, feg_tt, fev_ask, fev_pure, core1, execOp, opd, ofValue, putT, put, nth, bor, binInt, binOther, shiftB, intOp, doPick, branch, List.getElem?_cons_succ, List.getElem?_cons_zero, Nat.reduceAdd, decide_true, beq_self_eq_true, W, eq_same (a := 42) (by decide)]
  rw [fev_rd (kF.all ti25 rfl rfl), range4]
  simp only [fe_guard, fego_some, feg_bool, feg_tt, hkr, execOp, opd, opds, ofValue, putT, put, nth, doCall, callV_func, List.getElem?_cons_succ, List.getElem?_cons_zero, List.nil_append, List.append_nil, Nat.reduceAdd]
  refine fev_free fr76 (f19 42 _ _ (by decide)) (f19 42 _ _ (by decide)) fun v77 h77x n77x hn77 fr77 ⟨e77, o77⟩ => ?_
  subst e77
  have kE := kE.keep (o77 _ (by omega))
  have kF := kF.keep (o77 _ (by omega))
  have kG := kG.keep (o77 _ (by omega))
  have kI := kI.keep (o77 _ (by omega))
  simp only [fe_cons, fe_guard, fego_some, feg_bool, feg_tt, fev_ask, fev_pure, core1, execOp, opd, ofValue, putT, put, nth, bor, binInt, binOther, shiftB, intOp, doPick, branch, List.getElem?_cons_succ, List.getElem?_cons_zero, Nat.reduceAdd, decide_true, beq_self_eq_true, W, eq_same (a := 42) (by decide)]
  rw [fev_rd (kG.all ti25 rfl rfl), range4]
  simp only [fe_guard, fego_some, feg_bool, feg_tt, hkr, execOp, opd, opds, ofValue, putT, put, nth, doCall, callV_func, List.getElem?_cons_succ, List.getElem?_cons_zero, List.nil_append, List.append_nil, Nat.reduceAdd]
  refine fev_free fr77 (f19 1 _ _ (by decide)) (f19 1 _ _ (by decide)) fun v78 h78x n78x hn78 fr78 ⟨e78, o78⟩ => ?_
  subst e78
  have kE := kE.keep (o78 _ (by omega))
  have kF := kF.keep (o78 _ (by omega))
  have kG := kG.keep (o78 _ (by omega))
  have kI := kI.keep (o78 _ (by omega))
  simp only [fe_cons, fe_guard, fego_some, feg_bool, feg_tt, fev_ask, fev_pure, core1, execOp, opd, ofValue, putT, put, nth, bor, binInt, binOther, shiftB, intOp, doPick, branch, List.getElem?_cons_succ, List.getElem?_cons_zero, Nat.reduceAdd, decide_true, beq_self_eq_true, W, eq_same (a := 1) (by decide)]
  rw [fev_rd (kI.all ti25 rfl rfl), range4]
  simp only [fe_guard, fego_some, feg_bool, feg_tt, fev_pure, hkr, execOp, opd, opds, ops2, putT, put, nth, doCall, callV_func, List.getElem?_cons_succ, List.getElem?_cons_zero, List.nil_append, List.append_nil, Nat.reduceAdd, hb0]
  refine fev_free fr78 (f38 0 _ _ (by decide) Free.none) (f38 0 _ _ (by decide) fr78) fun v79 h79x n79x hn79 fr79 ⟨e79, o79⟩ => ?_
  subst e79
  have kE := kE.keep (o79 _ (by omega))
  have kF := kF.keep (o79 _ (by omega))
  have kG := kG.keep (o79 _ (by omega))
  have kI := kI.keep (o79 _ (by omega))
  rw [not_0]
  simp only [fe_nil, fe_cons, fe_guard, fego_some, feg_bool, feg_tt, fev_ask, fev_pure, core1, fgr, hkr, execOp, opd, opds, ofValue, putT, put, nth, forgetL, doCall, callV_func, bor, binInt, binOther, shiftB, intOp, doPick, branch, List.getElem?_cons_succ, List.getElem?_cons_zero, List.append_nil, Nat.reduceAdd, decide_true, beq_self_eq_true, W, eq_same (a := 115792089237316195423570985008687907853269984665640564039457584007913129639935) (by decide)]
  refine ⟨(by (try simp (disch := omega) only [fine, List.all_cons, List.all_nil, clash_pl, clash_pr, clash_rr, Bool.not_false, Bool.true_or, Bool.and_true, clash_nn, clash_xn, clash_nx]); repeat' (first | rfl | exact (Bool.or_eq_true _ _).mpr (.inr rfl) | refine (Bool.and_eq_true _ _).mpr ⟨?_, ?_⟩)), ?_⟩
  refine opv_callf fr79 (f14 _ _ fr79) fun v80 h80x n80x hn80 fr80 ⟨e80, o80⟩ => ?_
  subst e80
  simp only [core1, fgr, execOp, opd, ofValue, putT, put, nth, forgetL, doPick, branch, List.getElem?_cons_succ, List.getElem?_cons_zero, and_self]
  done
end Go.Am.Ytmlagocbphoedaa
