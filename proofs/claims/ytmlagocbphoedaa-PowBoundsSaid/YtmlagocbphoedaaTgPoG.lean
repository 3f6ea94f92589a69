/- The functions that the statement reaches, gone through. -/
import Derived.Test.YtmlagocbphoedaaTgPoF
set_option linter.unusedSimpArgs false
set_option linter.unusedVariables false
set_option linter.defProp false
set_option maxRecDepth 10000
namespace Go.Am.Ytmlagocbphoedaa
open Go Go.Am Go.Proofs
/- The bits asked for: the statement. -/
set_option maxHeartbeats 16000000 in
theorem law8 (vp : List AVal) (hvp : Arg Try.prog 60 vp) (pa : Int) (w1 : (Lit.int .u32 pa).wf = true) (fi : Int) (w2 : (Lit.int .u32 fi).wf = true) (la : Int) (w3 : (Lit.int .u32 la).wf = true) :
    Wp (callI env (evalW env) 8 [.agg vp, .int .u32 pa, .int .u32 fi, .int .u32 la]) (fun _ => none) 0 fun v _ _ => v = .bool true := by
  obtain ⟨p, rfl, lL⟩ := arg_p hvp
  obtain ⟨parent, lp, rfl⟩ := wf_nat32 w1
  obtain ⟨first, lf, rfl⟩ := wf_nat32 w2
  obtain ⟨last, ll, rfl⟩ := wf_nat32 w3
  refine wp_callI ff8 fi8 ?_
  have f0 : Free (fun _ => none) 0 := Free.none
  generalize (fun _ => none : Hp) = h0 at *
  simp only [fu8, Try.f8, Option.getD_some, List.replicate, core1, execOp, opd, nth, ended, resultOf, oneOrTup, List.append_eq, List.cons_append, List.nil_append, List.length_cons, List.length_nil, Nat.reduceAdd, Nat.reduceSub, Nat.zero_add, wp_pure]
  refine opv_box (i := ty60.i) (show ti env 60 = M.pure ty60.i from rfl) rfl f0 fun h1 p1 _ f1 => ?_
  have p1 : Row h1 0 p.cells := p1
  simp only [core1, fgr, hkr, execOp, opd, opds, ofValue, putT, put, forgetL, doCall, callV_func, List.append_nil, Nat.zero_add]
  refine opv_callf f1 (f29 _ _ f1) fun v2 h2 n2 hn2 f2 ⟨e2, o2⟩ => ?_
  subst e2
  have p1 := p1.keep (o2 _ (by omega))
  simp only [core1, fgr, hkr, execOp, opd, opds, putT, put, nth, forgetL, doCall, callV_func, List.nil_append, List.append_nil]
  refine opv_callf f2 (f16 parent _ _ lp f2) fun v3 h3 n3 hn3 f3 ⟨e3, o3⟩ => ?_
  subst e3
  rw [expA_eq]
  have p1 := p1.keep (o3 _ (by omega))
  simp only [core1, tyr, execOp, opd, putT, put, nth, zeroOf, cel, alloc, doAlloc, newRow, extract, getO, List.getElem?_cons_succ, List.getElem?_cons_zero, W]
  refine opv_all4 (arr_0 (upd_same _ _ _)) ti25 rfl fun bA kA => ?_
  have kA := pick_wd kA
  have sA : ∀ j, j < n3 → (upd (upd h3 n3 (some (Blk.row (Cont.l [AVal.int IntKind.u64 0, AVal.int IntKind.u64 0, AVal.int IntKind.u64 0, AVal.int IntKind.u64 0]) 25))) n3 (some bA)) j = h3 j := fun j hj => by rw [upd_ne _ _ (by omega), upd_ne _ _ (by omega)]
  have fA : Free (upd (upd h3 n3 (some (Blk.row (Cont.l [AVal.int IntKind.u64 0, AVal.int IntKind.u64 0, AVal.int IntKind.u64 0, AVal.int IntKind.u64 0]) 25))) n3 (some bA)) (n3 + 1) := f3.new.upd (by omega)
  generalize (upd (upd h3 n3 (some (Blk.row (Cont.l [AVal.int IntKind.u64 0, AVal.int IntKind.u64 0, AVal.int IntKind.u64 0, AVal.int IntKind.u64 0]) 25))) n3 (some bA)) = HA at *
  have p1 := p1.keep (sA _ (by omega))
  simp only [core1, fgr, execOp, opd, putT, put, nth, forgetL]
  rw [opv_rd (p1.whole ti60 rfl rfl)]
  simp only [core1, hkr, execOp, opd, opds, putT, put, nth, doCall, callV_func, List.nil_append, List.append_nil]
  refine opv_callf fA (f30 p _ _ lL fA) fun v4 h4 n4 hn4 f4 ⟨⟨r4, e4, q4⟩, o4⟩ => ?_
  subst e4
  have p1 := p1.keep (o4 _ (by omega))
  have kA := kA.keep (o4 _ (by omega))
  by_cases hp : p.ok
  case neg =>
    obtain rfl : r4 = 230 := q4.elim (fun q => absurd q.1 hp) (·.2)
    simp only [core1, fgr, execOp, opd, ofValue, putT, put, nth, forgetL, bor, binInt, shiftB, intOp, doPick, branch, List.getElem?_cons_succ, List.getElem?_cons_zero, int_bne, Int.reduceEq, not_false_eq_true, decide_true, and_self]
  obtain rfl : r4 = 0 := q4.elim (·.2) (fun q => absurd hp q.1)
  cases hx : expV parent with
  | none =>
    have ee : expE parent = 50 := by unfold expE; rw [hx]
    simp only [core1, fgr, execOp, opd, ofValue, putT, put, nth, forgetL, bor, binInt, shiftB, intOp, doPick, branch, List.getElem?_cons_succ, List.getElem?_cons_zero, int_bne, Int.reduceEq, not_false_eq_true, decide_true, and_self, bne_self_eq_false, ee]
  | some t =>
  have ee : expE parent = 0 := by unfold expE; rw [hx]
  have eq : expQ parent = t := by unfold expQ; rw [hx]; rfl
  rw [eq] at kA
  obtain ⟨lim, hlim⟩ : ∃ lim, expV p.L = some lim := by
    have := hp.hL
    unfold expE at this
    cases hh : expV p.L with
    | none => rw [hh] at this; cases this
    | some x => exact ⟨x, rfl⟩
  obtain ⟨lt, t0, _, _⟩ := expV_some hx
  obtain ⟨llim, lim0', _, _⟩ := expV_some hlim
  obtain ⟨e, he⟩ : ∃ e : Nat, p.e = (e : Nat) := ⟨p.e.toNat, by have := hp.e1.1; omega⟩
  have e0 : 2 ≤ e := by have := hp.e1.1; omega
  have e1 : e ≤ 2016 := by have := hp.e1.2; omega
  simp only [core1, tyr, fgr, execOp, opd, ofValue, putT, put, nth, forgetL, zeroOf, bor, binInt, shiftB, intOp, unOp, doPick, branch, cel, alloc, doAlloc, newRow, List.getElem?_cons_succ, List.getElem?_cons_zero, decide_true, Bool.not_true, bne_self_eq_false, ee]
  refine opv_hold ti3 rfl rfl rfl f4 fun h5 q5 o5 f5 => ?_
  have p1 := p1.keep (o5 _ (by omega))
  have kA := kA.keep (o5 _ (by omega))
  have q5 : Row h5 n4 [.int .i64 0] := q5
  simp only [core1, tyr, fgr, execOp, opd, putT, put, nth, forgetL, und, sizeOf, getO, moved, fieldAddr, List.getElem?_cons_succ, List.getElem?_cons_zero, Nat.zero_add]
  rw [opv_rd (p1.one rfl ti3 rfl)]
  simp only [core1, execOp, opd, putT, put, nth]
  rw [opv_make (m := e) he u62 ti64x (by show 80 * e ≤ _; omega) (by omega)]
  have z64 : ty64.i.size = 68 := rfl
  simp only [core1, fgr, execOp, opd, ofValue, putT, put, nth, forgetL, z64]
  have rE := upd_same h5 (n4 + 1) (some (Blk.row (Cont.l (reps hz e)) 64))
  have oE : ∀ j, j ≠ n4 + 1 → upd h5 (n4 + 1) (some (Blk.row (Cont.l (reps hz e)) 64)) j = h5 j := fun j hj => upd_ne _ _ hj
  have fE : Free (upd h5 (n4 + 1) (some (Blk.row (Cont.l (reps hz e)) 64))) (n4 + 1 + 1) := f5.new
  show OpV _ _ _ _ _ _ _ _ _ _ (upd h5 (n4 + 1) (some (Blk.row (Cont.l (reps hz e)) 64))) (n4 + 1 + 1)
  generalize upd h5 (n4 + 1) (some (Blk.row (Cont.l (reps hz e)) 64)) = hE at *
  have p1 := p1.keep (oE _ (by omega))
  have kA := kA.keep (oE _ (by omega))
  have q5 := q5.keep (oE _ (by omega))
  rw [opv_rd (sl_idx (z := 0) (j := 0) u62 s64 rfl (by omega))]
  simp only [core1, tyr, execOp, opd, putT, put, nth, und, sizeOf, getO, moved, fieldAddr, List.getElem?_cons_succ, List.getElem?_cons_zero, Nat.zero_add, Nat.add_zero, Nat.zero_mul]
  have l0 : (reps hz e).length = e * 68 := by rw [repq_len, hz_len]
  have wE := Row.write (E := env) (n := n4 + 1 + 1) (off := 65) (v := .int .u32 (first : Nat)) rE ti35 rfl (by rw [l0]; show 65 + 1 ≤ _; omega) rfl
  rw [opv_wr wE]
  have rF := upd_same hE (n4 + 1) (some (Blk.row (Cont.l (splice (reps hz e) 65 [.int .u32 (first : Nat)])) 64))
  have oF : ∀ j, j ≠ n4 + 1 → upd hE (n4 + 1) (some (Blk.row (Cont.l (splice (reps hz e) 65 [.int .u32 (first : Nat)])) 64)) j = hE j := fun j hj => upd_ne _ _ hj
  have fF : Free (upd hE (n4 + 1) (some (Blk.row (Cont.l (splice (reps hz e) 65 [.int .u32 (first : Nat)])) 64))) (n4 + 1 + 1) := fE.upd (by omega)
  simp only [core1, tyr, fgr, execOp, opd, putT, put, nth, forgetL, und, sizeOf, cel, getO, moved, fieldAddr, List.getElem?_cons_succ, List.getElem?_cons_zero, Nat.zero_add]
  show OpV _ _ _ _ _ _ _ _ _ _ (upd hE (n4 + 1) (some (Blk.row (Cont.l (splice (reps hz e) 65 [.int .u32 (first : Nat)])) 64))) (n4 + 1 + 1)
  generalize upd hE (n4 + 1) (some (Blk.row (Cont.l (splice (reps hz e) 65 [.int .u32 (first : Nat)])) 64)) = hF at *
  have p1 := p1.keep (oF _ (by omega))
  have kA := kA.keep (oF _ (by omega))
  have q5 := q5.keep (oF _ (by omega))
  rw [opv_rd (p1.one rfl ti3 rfl)]
  have we : IntKind.i64.wrap (p.e - 1) = ((e - 1 : Nat) : Int) := by rw [w64 (by omega) (by omega)]; omega
  simp only [core1, execOp, opd, ofValue, ops2, putT, put, nth, bor, binInt, shiftB, intOp, wrapI, decide_true, we]
  rw [build_h2]
  simp only [core1, execOp, opd, putT, put, nth]
  rw [opv_rd (sl_idx (j := e - 1) u62 s64 rfl (by omega))]
  simp only [core1, execOp, opd, putT, put, nth, Nat.zero_add]
  have l1 : (splice (reps hz e) 65 [.int .u32 (first : Nat)]).length = e * 68 := by rw [splice_len (by rw [l0, List.length_singleton]; omega), l0]
  have wF := Row.write (E := env) (n := n4 + 1 + 1) (off := (e - 1) * 68) (v := .agg (hdc last parent)) rF ti64x rfl (by rw [l1]; show (e - 1) * 68 + 68 ≤ _; omega) rfl
  rw [opv_wr wF]
  have rG : Row (upd hF (n4 + 1) (some (Blk.row (Cont.l (hdw e first last parent)) 64))) (n4 + 1) (hdw e first last parent) := Row.new _ _ _ _
  have oG : ∀ j, j ≠ n4 + 1 → upd hF (n4 + 1) (some (Blk.row (Cont.l (hdw e first last parent)) 64)) j = hF j := fun j hj => upd_ne _ _ hj
  have fG : Free (upd hF (n4 + 1) (some (Blk.row (Cont.l (hdw e first last parent)) 64))) (n4 + 1 + 1) := fF.upd (by omega)
  show Ops _ _ _ _ _ _ _ _ (upd hF (n4 + 1) (some (Blk.row (Cont.l (hdw e first last parent)) 64))) (n4 + 1 + 1)
  generalize upd hF (n4 + 1) (some (Blk.row (Cont.l (hdw e first last parent)) 64)) = hG at *
  have p1 := p1.keep (oG _ (by omega))
  have kA := kA.keep (oG _ (by omega))
  have q5 := q5.keep (oG _ (by omega))
  clear rE oE fE rF oF fF wE wF o2 o3 o4 o5
  have hds := hdw_ok e0 lf ll lp
  generalize hT : (fun k => if k = e - 1 then last else if k = 0 then first else 0) = T at *
  generalize hB : (fun k => if k = e - 1 then parent else 0) = B at *
  have hBe : expV (B (e - 1)) = some t := by rw [← hB]; simp only []; exact hx
  have een : p.e.toNat = e := by omega
  have bb : bitsS p t lim e T B = compA (scS t (kOf p (tookOf p e T)) p.s.toNat lim) := by unfold bitsS; rw [een, if_pos (Nat.mod_self e)]
  obtain ⟨S, eS⟩ : ∃ S : Nat, p.s = (S : Nat) := ⟨p.s.toNat, by have := hp.s1; omega⟩
  have hSn : p.s.toNat = S := by omega
  have hS : 1 ≤ S ∧ S ≤ 2147483647 := by have := hp.s1; have := hp.s2; omega
  have hk : ((kOf p (tookOf p e T) : Nat) : Int) = min (max (max (tookOf p e T) (p.s / 4)) 1) (4 * p.s) := by unfold kOf; omega
  rw [hSn] at bb
  generalize hK : kOf p (tookOf p e T) = K at *
  obtain ⟨s1, s2, _, _⟩ := scS_facts (by_ := K) t0 lim0' hS.1
  have ls : scS t K S lim < b256 := by omega
  obtain ⟨x, x1, _, x3, x4⟩ := near ls s2
  obtain ⟨bo1, bo2, bo3⟩ := bounds t0 lim0' llim hS.1 (by omega) x1 x3 x4
  have lc := compV_lt ls
  obtain ⟨lx, x0', _, _⟩ := expV_some x1
  have bb2 : bitsS p t lim e T B = .tup [.int .u32 (compV (scS t K S lim) : Nat), .int .i64 0] := by rw [bb]; unfold compA; rw [if_neg s2]
  clear x3 x4 bb
  simp only [core1, fgr, putT, forgetL]
  refine run_draw.2 ⟨rfl, ?_⟩
  simp only [fe_cons, execOp, opd, nth]
  rw [fev_rd (p1.whole ti60 rfl rfl)]
  simp only [fe_cons, fev_pure, core1, tyr, execOp, opd, putT, put, nth, und, sizeOf, getO, moved, fieldAddr, List.getElem?_cons_succ, List.getElem?_cons_zero, Nat.reduceAdd, Nat.zero_add]
  rw [fev_rd (p1.one rfl ti3 rfl)]
  simp only [fe_cons, fev_pure, hkr, execOp, opd, opds, putT, put, nth, doCall, callV_func, List.nil_append, List.append_nil, Nat.reduceAdd, he]
  refine fev_free fG (f32 _ n4 ⟨rfl, rfl, rfl⟩ _ _ Free.none) (f32 _ n4 ⟨rfl, rfl, rfl⟩ _ _ fG) fun v6 h6 n6 hn6 f6 ⟨e6, en6, r6, _, o6, _⟩ => ?_
  subst e6; subst en6
  have p1 := p1.keep (o6 _ (by omega))
  have kA := kA.keep (o6 _ (by omega))
  have q5 := q5.keep (o6 _ (by omega))
  have rG := rG.keep (o6 _ (by omega))
  simp only [fe_cons, hkr, execOp, opd, opds, putT, put, nth, doCall, callV_func, List.nil_append, List.append_nil, Nat.reduceAdd]
  refine fev_any f6 (f31 p hp t lim e (n4 + 1) (n4 + 1 + 1) (n4 + 1 + 1 + 1) _ (hdw e first last parent) T B _ _ lL hlim e1 (by omega) hds hBe rG r6 (by omega) (by omega) (by omega) f6) fun v7 h7 n7 r7 w7 hn7 f7 ⟨e7, o7⟩ => ?_
  subst e7
  rw [bb2]
  have p1 := p1.keep (o7 _ (by omega))
  have kA := kA.keep (o7 _ (by omega))
  have q5 := q5.keep (o7 _ (by omega))
  have rG := rG.keep (o7 _ (by omega))
  simp only [fe_nil, fe_cons, fev_pure, core1, fgr, execOp, opd, putT, put, nth, forgetL, extract, getO, List.getElem?_cons_succ, List.getElem?_cons_zero, Nat.reduceAdd]
  refine ⟨(by (try simp (disch := first | assumption | omega) only [fine, List.all_cons, List.all_nil, clash_pl, clash_pr, clash_rr, Bool.not_false, Bool.true_or, Bool.and_true, Bool.true_and, clash_xn]); repeat' (first | rfl | exact (Bool.or_eq_true _ _).mpr (.inr rfl) | refine (Bool.and_eq_true _ _).mpr ⟨?_, ?_⟩)), ?_⟩
  rw [opv_rd (p1.whole ti60 rfl rfl)]
  simp only [core1, hkr, execOp, opd, opds, putT, put, nth, doCall, callV_func, List.nil_append, List.append_nil]
  refine opv_callf f7 (f33 p hp t lim e (n4 + 1) _ (hdw e first last parent) T B _ _ lL hlim e1 (by omega) hds hBe rG (by omega) f7) fun v8 h8 n8 hn8 f8 ⟨e8, o8⟩ => ?_
  subst e8
  rw [bb2]
  have p1 := p1.keep (o8 _ (by omega))
  have kA := kA.keep (o8 _ (by omega))
  have q5 := q5.keep (o8 _ (by omega))
  simp only [core1, fgr, hkr, execOp, opd, opds, ofValue, putT, put, nth, forgetL, doCall, callV_func, bor, binInt, shiftB, intOp, doPick, branch, extract, getO, List.getElem?_cons_succ, List.getElem?_cons_zero, List.nil_append, List.append_nil, decide_true, bne_self_eq_false]
  refine opv_callf f8 (f16 (compV (scS t K S lim)) _ _ lc f8) fun v9 h9 n9 hn9 f9 ⟨e9, o9⟩ => ?_
  subst e9
  rw [expA_some x1]
  have p1 := p1.keep (o9 _ (by omega))
  have kA := kA.keep (o9 _ (by omega))
  have q5 := q5.keep (o9 _ (by omega))
  simp only [core1, tyr, execOp, opd, putT, put, nth, zeroOf, cel, alloc, doAlloc, newRow, extract, getO, List.getElem?_cons_succ, List.getElem?_cons_zero, W]
  refine opv_all4 (arr_0 (upd_same _ _ _)) ti25 rfl fun bX kX => ?_
  have kX := pick_wd kX
  have sX : ∀ j, j < n9 → (upd (upd h9 n9 (some (Blk.row (Cont.l [AVal.int IntKind.u64 0, AVal.int IntKind.u64 0, AVal.int IntKind.u64 0, AVal.int IntKind.u64 0]) 25))) n9 (some bX)) j = h9 j := fun j hj => by rw [upd_ne _ _ (by omega), upd_ne _ _ (by omega)]
  have fX : Free (upd (upd h9 n9 (some (Blk.row (Cont.l [AVal.int IntKind.u64 0, AVal.int IntKind.u64 0, AVal.int IntKind.u64 0, AVal.int IntKind.u64 0]) 25))) n9 (some bX)) (n9 + 1) := f9.new.upd (by omega)
  generalize (upd (upd h9 n9 (some (Blk.row (Cont.l [AVal.int IntKind.u64 0, AVal.int IntKind.u64 0, AVal.int IntKind.u64 0, AVal.int IntKind.u64 0]) 25))) n9 (some bX)) = HX at *
  have p1 := p1.keep (sX _ (by omega))
  have kA := kA.keep (sX _ (by omega))
  have q5 := q5.keep (sX _ (by omega))
  simp only [core1, tyr, fgr, execOp, opd, putT, put, nth, forgetL, und, sizeOf, getO, moved, fieldAddr, List.getElem?_cons_zero, Nat.zero_add]
  rw [opv_rd (p1.one rfl ti35 rfl)]
  simp only [core1, hkr, execOp, opd, opds, putT, put, nth, doCall, callV_func, List.nil_append, List.append_nil]
  refine opv_callf fX (f16 p.L _ _ lL fX) fun va ha na hna fa ⟨ea, oa⟩ => ?_
  subst ea
  rw [expA_some hlim]
  have p1 := p1.keep (oa _ (by omega))
  have kA := kA.keep (oa _ (by omega))
  have kX := kX.keep (oa _ (by omega))
  have q5 := q5.keep (oa _ (by omega))
  simp only [core1, tyr, execOp, opd, putT, put, nth, zeroOf, cel, alloc, doAlloc, newRow, extract, getO, List.getElem?_cons_succ, List.getElem?_cons_zero, W]
  refine opv_all4 (arr_0 (upd_same _ _ _)) ti25 rfl fun bL kL => ?_
  have kL := pick_wd kL
  have sL : ∀ j, j < na → (upd (upd ha na (some (Blk.row (Cont.l [AVal.int IntKind.u64 0, AVal.int IntKind.u64 0, AVal.int IntKind.u64 0, AVal.int IntKind.u64 0]) 25))) na (some bL)) j = ha j := fun j hj => by rw [upd_ne _ _ (by omega), upd_ne _ _ (by omega)]
  have fL : Free (upd (upd ha na (some (Blk.row (Cont.l [AVal.int IntKind.u64 0, AVal.int IntKind.u64 0, AVal.int IntKind.u64 0, AVal.int IntKind.u64 0]) 25))) na (some bL)) (na + 1) := fa.new.upd (by omega)
  generalize (upd (upd ha na (some (Blk.row (Cont.l [AVal.int IntKind.u64 0, AVal.int IntKind.u64 0, AVal.int IntKind.u64 0, AVal.int IntKind.u64 0]) 25))) na (some bL)) = HL at *
  have p1 := p1.keep (sL _ (by omega))
  have kA := kA.keep (sL _ (by omega))
  have kX := kX.keep (sL _ (by omega))
  have q5 := q5.keep (sL _ (by omega))
  simp only [core1, fgr, execOp, opd, ofValue, putT, put, nth, forgetL, bor, binInt, shiftB, intOp, doPick, branch, List.getElem?_cons_succ, List.getElem?_cons_zero, decide_true, bne_self_eq_false]
  rw [opv_rd (q5.one rfl ti3 rfl)]
  simp only [core1, execOp, opd, ofValue, putT, put, nth, bor, binInt, shiftB, intOp, doPick, branch, List.getElem?_cons_succ, List.getElem?_cons_zero, decide_true, bne_self_eq_false]
  rw [opv_rd (kX.all ti25 rfl rfl), range4]
  simp only [core1, execOp, opd, putT, put, nth, List.getElem?_cons_succ, List.getElem?_cons_zero]
  rw [opv_rd (kL.all ti25 rfl rfl), range4]
  simp only [core1, hkr, execOp, opd, opds, putT, put, nth, doCall, callV_func, List.getElem?_cons_succ, List.getElem?_cons_zero, List.nil_append, List.append_nil]
  refine opv_callf fL (f17c x lim _ _ lx llim fL) fun vb hb nb hnb fb ⟨eb, ob⟩ => ?_
  subst eb
  have p1 := p1.keep (ob _ (by omega))
  have kA := kA.keep (ob _ (by omega))
  have kX := kX.keep (ob _ (by omega))
  have kL := kL.keep (ob _ (by omega))
  have g1 : ¬ 0 < cmpW x lim := of_decide_eq_false ((cmpW_gt x lim).trans (decide_eq_false (by omega)))
  simp only [core1, fgr, execOp, opd, ofValue, putT, put, nth, forgetL, bor, binInt, shiftB, intOp, doPick, branch, List.getElem?_cons_succ, List.getElem?_cons_zero, gt_iff_lt, decide_true, decide_false, g1]
  refine run_draw.2 ⟨rfl, ?_⟩
  simp only [fe_cons, execOp, opd, nth]
  rw [fev_rd (kA.all ti25 rfl rfl), range4]
  simp only [fe_cons, hkr, execOp, opd, opds, ofValue, putT, put, doCall, callV_func, List.nil_append, List.append_nil, Nat.zero_add]
  refine fev_free fb (f19 4 _ _ (by decide)) (f19 4 _ _ (by decide)) fun vc hc nc hnc fc ⟨ec, oc⟩ => ?_
  subst ec
  simp only [fe_cons, hkr, execOp, opd, opds, putT, put, nth, doCall, callV_func, List.nil_append, List.append_nil, Nat.reduceAdd]
  refine fev_free fc (f28 t 4 _ _ lt (by decide) Free.none) (f28 t 4 _ _ lt (by decide) fc) fun vd hd nd hnd fd ⟨ed, od⟩ => ?_
  subst ed
  simp only [fe_cons, fev_pure, core1, tyr, execOp, opd, putT, put, nth, zeroOf, cel, alloc, doAlloc, newRow, extract, getO, List.getElem?_cons_succ, List.getElem?_cons_zero, Nat.reduceAdd, W]
  refine fev_free fd (al25 _ _) (al25 _ _) fun v5 h5 n5 hn5 hf5 ⟨e5, a5, o5, en5⟩ => ?_
  subst e5; subst en5
  simp only [fe_cons, core1, tyr, execOp, putT, put, zeroOf, cel, alloc, doAlloc, newRow, Nat.reduceAdd]
  refine fev_free hf5 (al25 _ _) (al25 _ _) fun v6 h6 n6 hn6 hf6 ⟨e6, a6, o6, en6⟩ => ?_
  subst e6; subst en6
  simp only [fe_cons, execOp, opd, putT, put, nth, Nat.reduceAdd]
  refine fev_all4 (a5.keep (o6 _ (by omega))) ti25 rfl fun b7 k10 => ?_
  simp only [fe_cons, execOp, opd, putT, nth, Nat.reduceAdd]
  refine fev_all4 (a6.upd (by omega)) ti25 rfl fun b8 k11 => ?_
  simp only [fe_nil, core1, fgr, execOp, opd, putT, nth, forgetL, Nat.reduceAdd]
  refine ⟨(by (try simp (disch := omega) only [fine, List.all_cons, List.all_nil, clash_pl, clash_pr, Bool.not_false, Bool.true_or, Bool.and_true, Bool.true_and, clash_rw, clash_ww, clash_nn, clash_nw, clash_xn]); repeat' (first | rfl | exact (Bool.or_eq_true _ _).mpr (.inr rfl) | refine (Bool.and_eq_true _ _).mpr ⟨?_, ?_⟩)), ?_⟩
  have kq : Arr .u64 (upd (upd h6 nd (some b7)) (nd + 1) (some b8)) nd 4 (fun j => (wd (t * 4 % b256) j : Nat)) := (pick_wd k10).upd (by omega)
  have kr : Arr .u64 (upd (upd h6 nd (some b7)) (nd + 1) (some b8)) (nd + 1) 4 (fun j => (wd (t * 4 / b256) j : Nat)) := pick_wd k11
  have sM : ∀ j, j < nb → (upd (upd h6 nd (some b7)) (nd + 1) (some b8)) j = hb j := fun j hj => by
    rw [upd_ne _ _ (by omega), upd_ne _ _ (by omega), o6 j (by omega), o5 j (by omega), od j (by omega), oc j (by omega)]
  have fM : Free (upd (upd h6 nd (some b7)) (nd + 1) (some b8)) (nd + 1 + 1) := (hf6.upd (by omega)).upd (by omega)
  generalize upd (upd h6 nd (some b7)) (nd + 1) (some b8) = HM at *
  have p1 := p1.keep (sM _ (by omega))
  have kA := kA.keep (sM _ (by omega))
  have kX := kX.keep (sM _ (by omega))
  have kL := kL.keep (sM _ (by omega))
  have hb0 : build env 25 [] = M.pure (W 0) := rfl
  have l4 : t * 4 / b256 < b256 := (Nat.div_lt_iff_lt_mul (by decide)).2 (by unfold b256 at *; omega)
  have eS := eq_agg0 l4
  rw [opv_rd (kr.all ti25 rfl rfl), range4]
  have e4 : t * 4 / b256 = 0 → t * 4 % b256 = 4 * t := fun q => by rw [Nat.mod_eq_of_lt ((Nat.div_eq_zero_iff_lt (by decide)).1 q)]; omega
  have lm : t * 4 % b256 < b256 := Nat.mod_lt _ (by decide)
  refine Or.elim (Classical.em (t * 4 / b256 = 0)) (fun c0 => ?p1) (fun c0 => ?n1)
  case' p1 =>
    have d0 : decide (t * 4 / b256 = 0) = true := decide_eq_true c0
    simp only [core1, execOp, opd, ops2, putT, put, nth, bor, binOther, List.getElem?_cons_succ, List.getElem?_cons_zero, hb0, W0, eS, d0]
    rw [opv_rd (kX.all ti25 rfl rfl), range4]
    simp only [core1, execOp, opd, putT, put, nth, List.getElem?_cons_succ, List.getElem?_cons_zero]
    rw [opv_rd (kq.all ti25 rfl rfl), range4]
    simp only [core1, hkr, execOp, opd, opds, putT, put, nth, doCall, callV_func, List.getElem?_cons_succ, List.getElem?_cons_zero, List.nil_append, List.append_nil]
    refine opv_callf fM (f17c x (t * 4 % b256) _ _ lx lm fM) fun ve he2 ne hne fe ⟨ee2, oe⟩ => ?_
    subst ee2
    have p1 := p1.keep (oe _ (by omega))
    have kA := kA.keep (oe _ (by omega))
    have kX := kX.keep (oe _ (by omega))
    have kL := kL.keep (oe _ (by omega))
    have g2 : ¬ 0 < cmpW x (t * 4 % b256) := of_decide_eq_false ((cmpW_gt x _).trans (decide_eq_false (by rw [e4 c0]; omega)))
    have nne : nd + 1 + 1 ≤ ne := hne
    simp only [core1, tyr, fgr, execOp, opd, ofValue, putT, put, nth, forgetL, und, sizeOf, bor, binInt, shiftB, intOp, doPick, branch, getO, moved, fieldAddr, List.getElem?_cons_succ, List.getElem?_cons_zero, gt_iff_lt, decide_true, decide_false, Nat.zero_add, g2]
    generalize he2 = HN at *
  case' n1 =>
    have d0 : decide (t * 4 / b256 = 0) = false := decide_eq_false c0
    simp only [core1, tyr, fgr, execOp, opd, ofValue, ops2, putT, put, nth, forgetL, und, sizeOf, bor, binOther, doPick, branch, getO, moved, fieldAddr, List.getElem?_cons_succ, List.getElem?_cons_zero, Nat.zero_add, hb0, W0, eS, d0]
    obtain ⟨ne, hne2⟩ : ∃ ne, nd + 1 + 1 = ne := ⟨_, rfl⟩
    have nne : nd + 1 + 1 ≤ ne := by omega
    rw [hne2] at fM ⊢
    have fe := fM
    generalize HM = HN at *
  all_goals
    rw [opv_rd (p1.one rfl ti2 rfl)]
    by_cases c1 : p.s < 4
    · simp only [core1, fgr, execOp, opd, ofValue, putT, put, nth, forgetL, bor, binInt, shiftB, intOp, doPick, branch, List.getElem?_cons_succ, List.getElem?_cons_zero, decide_true, and_self, c1]
    simp only [core1, execOp, opd, ofValue, putT, put, nth, bor, binInt, shiftB, intOp, List.getElem?_cons_succ, List.getElem?_cons_zero, decide_true, decide_false, c1]
    rw [opv_rd (kA.all ti25 rfl rfl), range4]
    simp only [core1, execOp, opd, putT, put, nth, List.getElem?_cons_succ, List.getElem?_cons_zero]
    rw [opv_rd (kL.all ti25 rfl rfl), range4]
    simp only [core1, hkr, execOp, opd, opds, putT, put, nth, doCall, callV_func, List.getElem?_cons_succ, List.getElem?_cons_zero, List.nil_append, List.append_nil]
    refine opv_callf fe (f17c t lim _ _ lt llim fe) fun vf hf nf hnf ff ⟨ef, of_⟩ => ?_
    subst ef
    have kA := kA.keep (of_ _ (by omega))
    have kX := kX.keep (of_ _ (by omega))
    by_cases c2 : lim < t
    · have g3 : 0 < cmpW t lim := of_decide_eq_true ((cmpW_gt t lim).trans (decide_eq_true c2))
      simp only [core1, fgr, execOp, opd, ofValue, putT, put, nth, forgetL, bor, binInt, shiftB, intOp, doPick, branch, List.getElem?_cons_succ, List.getElem?_cons_zero, gt_iff_lt, decide_true, and_self, g3]
    have g3 : ¬ 0 < cmpW t lim := of_decide_eq_false ((cmpW_gt t lim).trans (decide_eq_false c2))
    simp only [core1, fgr, execOp, opd, ofValue, putT, put, nth, forgetL, bor, binInt, shiftB, intOp, doPick, branch, List.getElem?_cons_succ, List.getElem?_cons_zero, gt_iff_lt, decide_true, decide_false, g3]
    refine run_draw.2 ⟨rfl, ?_⟩
    simp only [fe_cons, execOp, opd, nth]
    rw [fev_rd (kA.all ti25 rfl rfl), range4]
    simp only [fe_cons, hkr, execOp, opd, opds, ofValue, putT, put, doCall, callV_func, List.nil_append, List.append_nil, Nat.zero_add]
    refine fev_free ff (f19 8 _ _ (by decide)) (f19 8 _ _ (by decide)) fun vc hc2 nc2 hnc2 fc2 ⟨ec2, oc2⟩ => ?_
    subst ec2
    simp only [fe_cons, hkr, execOp, opd, opds, putT, put, nth, doCall, callV_func, List.nil_append, List.append_nil, Nat.reduceAdd]
    refine fev_free fc2 (f34 t 8 _ _ lt (by decide) Free.none) (f34 t 8 _ _ lt (by decide) fc2) fun vd hd2 nd2 hnd2 fd2 ⟨ed2, od2⟩ => ?_
    subst ed2
    simp only [fe_cons, fev_pure, core1, tyr, execOp, opd, putT, put, nth, zeroOf, cel, alloc, doAlloc, newRow, extract, getO, List.getElem?_cons_succ, List.getElem?_cons_zero, Nat.reduceAdd, ↓reduceIte, W, show ¬ (8 : Nat) = 0 by decide]
    refine fev_free fd2 (al25 _ _) (al25 _ _) fun v5 h5 n5 hn5 hf5 ⟨e5, a5, o5, en5⟩ => ?_
    subst e5; subst en5
    simp only [fe_cons, core1, tyr, execOp, putT, put, zeroOf, cel, alloc, doAlloc, newRow, Nat.reduceAdd]
    refine fev_free hf5 (al25 _ _) (al25 _ _) fun v6 h6 n6 hn6 hf6 ⟨e6, a6, o6, en6⟩ => ?_
    subst e6; subst en6
    simp only [fe_cons, execOp, opd, putT, put, nth, Nat.reduceAdd]
    refine fev_all4 (a5.keep (o6 _ (by omega))) ti25 rfl fun b7 k10 => ?_
    simp only [fe_cons, execOp, opd, putT, nth, Nat.reduceAdd]
    refine fev_all4 (a6.upd (by omega)) ti25 rfl fun b8 k11 => ?_
    simp only [fe_nil, fe_cons, fev_pure, core1, fgr, execOp, opd, putT, put, nth, forgetL, List.getElem?_cons_succ, List.getElem?_cons_zero, Nat.reduceAdd]
    refine ⟨(by (try simp (disch := omega) only [fine, List.all_cons, List.all_nil, clash_pl, clash_pr, Bool.not_false, Bool.true_or, Bool.and_true, Bool.true_and, clash_rw, clash_ww, clash_nn, clash_nw, clash_xn]); repeat' (first | rfl | exact (Bool.or_eq_true _ _).mpr (.inr rfl) | refine (Bool.and_eq_true _ _).mpr ⟨?_, ?_⟩)), ?_⟩
    have kQ : Arr .u64 (upd (upd h6 nd2 (some b7)) (nd2 + 1) (some b8)) nd2 4 (fun j => (wd (t / 8) j : Nat)) := (pick_wd k10).upd (by omega)
    have sN : ∀ j, j < nf → (upd (upd h6 nd2 (some b7)) (nd2 + 1) (some b8)) j = hf j := fun j hj => by
      rw [upd_ne _ _ (by omega), upd_ne _ _ (by omega), o6 j (by omega), o5 j (by omega), od2 j (by omega), oc2 j (by omega)]
    have fN : Free (upd (upd h6 nd2 (some b7)) (nd2 + 1) (some b8)) (nd2 + 1 + 1) := (hf6.upd (by omega)).upd (by omega)
    generalize upd (upd h6 nd2 (some b7)) (nd2 + 1) (some b8) = HQ at *
    have kX := kX.keep (sN _ (by omega))
    have l8 : t / 8 < b256 := Nat.lt_of_le_of_lt (Nat.div_le_self _ _) lt
    rw [opv_rd (kX.all ti25 rfl rfl), range4]
    simp only [core1, execOp, opd, putT, put, nth, List.getElem?_cons_succ, List.getElem?_cons_zero]
    rw [opv_rd (kQ.all ti25 rfl rfl), range4]
    simp only [core1, hkr, execOp, opd, opds, putT, put, nth, doCall, callV_func, List.getElem?_cons_succ, List.getElem?_cons_zero, List.nil_append, List.append_nil]
    refine opv_callf fN (f17c x (t / 8) _ _ lx l8 fN) fun vg hg ng hng fg ⟨eg, og⟩ => ?_
    subst eg
    have g4 : 0 ≤ cmpW x (t / 8) := of_decide_eq_true ((cmpW_ge _ _).trans (decide_eq_true (bo3 (by omega) (by omega) (by omega))))
    simp only [core1, fgr, execOp, opd, ofValue, putT, put, nth, forgetL, bor, binInt, shiftB, intOp, doPick, branch, List.getElem?_cons_succ, List.getElem?_cons_zero, ge_iff_le, decide_true, and_self, g4]
end Go.Am.Ytmlagocbphoedaa
