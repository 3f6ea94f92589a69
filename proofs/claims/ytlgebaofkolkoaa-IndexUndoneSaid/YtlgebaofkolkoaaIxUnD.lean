/- The functions that the statement reaches, gone through. -/
import Derived.Test.YtlgebaofkolkoaaIxUnC
set_option linter.unusedSimpArgs false
set_option linter.unusedVariables false
set_option linter.defProp false
set_option maxRecDepth 10000
namespace Go.Am.Ytlgebaofkolkoaa
open Go Go.Am Go.Proofs
theorem f29 (h : Hp) (n : Nat) (hf : Free h n) : Wp (callI env (evalW env) 29 []) h n fun v' h' n' => v' = .bool true ∧ Old h h' n := by
  refine wp_callI ff29 fi29 ?_
  simp only [fu29, Try.f29, Option.getD_some, List.replicate, core1, fgr, hkr, execOp, opd, opds, ofValue, putT, put, forgetL, doCall, callV_func, ended, resultOf, oneOrTup, List.append_eq, List.cons_append, List.nil_append, List.append_nil, List.length_nil, Nat.reduceSub, wp_pure]
  refine opv_callf hf (f40k h n hf) fun v1 h1 n1 hn1 f1 ⟨x, e1, hx, s1, o1⟩ => ?_
  subst e1
  simp only [core1, tyr, execOp, opd, ofValue, ops2, putT, put, und, cel, getO, List.cons_append, List.nil_append, List.append_nil, List.length_cons, List.length_nil, Nat.beq, Bool.not_false, Bool.and_true, Bool.true_and, Nat.zero_add, Nat.zero_mul, buildSlice, reps, fill, List.take_zero, List.drop_succ_cons, List.drop_zero, Nat.ble, Nat.one_mul, List.length_cons, List.length_nil, Nat.zero_mul]
  refine opv_row ti5 f1 (f := fun id => AVal.sl id 0 1 (some 1) 1) fun H2 r2 o2 f2 => ?_
  have hb2 : Bytes H2 (.sl n1 0 1 (some 1) 1) [81] := Bytes.fresh (l := [81]) r2
  have s2 := s1.grow (n' := n1 + 1) (by omega) (fun j hj => o2 j (by omega))
  have old2 : Old h H2 n := fun j hj => by rw [o2 j (by omega), o1 j hj]
  have kd : AVal.cells (.sl n1 0 1 (some 1) 1) = [.sl n1 0 1 (some 1) 1] ∧ oneCell (.sl n1 0 1 (some 1) 1) = true ∧ isJunk (.sl n1 0 1 (some 1) 1) = false := ⟨rfl, rfl, rfl⟩
  have Kn : ∀ j, j < n ∨ j = n1 → (j < n ∨ (n1 ≤ j ∧ j < n1 + 1)) := fun j q => by omega
  replace s2 := s2.sub Kn
  simp only [core1, fgr, hkr, execOp, opd, opds, ofValue, ops2, putT, put, nth, forgetL, doCall, callV_func, List.nil_append, List.append_nil, build31m kd]
  refine opv_callf f2 (f33k (exv 3 0) _ ⟨rfl, rfl⟩ (by decide) (by decide) s2 hb2 (fun j q => by injection q with q; omega) (by decide) f2) fun v3 h3 n3 hn3 f3 ⟨k3, hh⟩ => ?_
  rcases hh with ⟨q, _⟩ | ⟨_, e3, s3⟩
  · exact absurd q ex1
  subst e3
  rw [ex2] at s3
  have hb3 := hb2.keep (h' := h3) fun j q => k3 j (by injection q with q; exact .inr q.symm)
  simp only [core1, hkr, execOp, opd, opds, ofValue, ops2, putT, put, nth, doCall, callV_func, List.nil_append, List.append_nil, build31m kd]
  refine opv_callf f3 (f33k (exv 3 0) _ ⟨rfl, rfl⟩ (by decide) (by decide) s3 hb3 (fun j q => by injection q with q; omega) (by decide) f3) fun v4 h4 n4 hn4 f4 ⟨k4, hh⟩ => ?_
  rcases hh with ⟨_, e4, s4⟩ | ⟨q, _⟩
  rotate_left
  · exact absurd ex3 q
  subst e4
  have hb4 := hb3.keep (h' := h4) fun j q => k4 j (by injection q with q; exact .inr q.symm)
  simp only [core1, hkr, execOp, opd, opds, ofValue, ops2, putT, put, nth, doCall, callV_func, List.nil_append, List.append_nil, build31v kd]
  refine opv_callf f4 (f33k (exv 5 7) _ ⟨rfl, rfl⟩ (by decide) (by decide) s4 hb4 (fun j q => by injection q with q; omega) (by decide) f4) fun v5 h5 n5 hn5 f5 ⟨k5, hh⟩ => ?_
  rcases hh with ⟨q, _⟩ | ⟨_, e5, s5⟩
  · exact absurd q ex4
  subst e5
  rw [ex5] at s5
  have hb5 := hb4.keep (h' := h5) fun j q => k5 j (by injection q with q; exact .inr q.symm)
  have old5 : Old h h5 n := fun j hj => by rw [k5 j (.inl hj), k4 j (.inl hj), k3 j (.inl hj), old2 j hj]
  simp only [core1, fgr, hkr, execOp, opd, opds, ofValue, ops2, putT, put, nth, forgetL, doCall, callV_func, List.nil_append, List.append_nil, build28z, build25_9]
  refine opv_callf f5 (f36k z0 0 3 4 b9 rfl rfl s5 (by decide) f5) fun v6 h6 n6 hn6 f6 ⟨k6, hh⟩ => ?_
  rcases hh with ⟨q, _⟩ | ⟨w, hw, q, _, _, _, e6, s6⟩
  · have := q (exv 3 0) List.mem_cons_self ex7
    rcases this with q | q | q
    · exact absurd rfl q
    · exact absurd q (by decide)
    · exact absurd q (by decide)
  subst e6
  have ew : w = exv 3 0 := by
    rcases List.mem_cons.1 hw with q' | q'
    · exact q'
    · rw [List.mem_singleton.1 q'] at q
      exact absurd q ex8
  subst ew
  rw [ex6] at s6
  have hb6 := hb5.keep (h' := h6) fun j q => k6 j (by injection q with q; exact .inr q.symm)
  have old6 : Old h h6 n := fun j hj => by rw [k6 j (.inl hj), old5 j hj]
  simp only [core1, fgr, hkr, execOp, opd, opds, ofValue, ops2, putT, put, nth, forgetL, doCall, callV_func, List.nil_append, List.append_nil, build28z]
  refine opv_callf f6 (f37k z0 0 3 rfl s6 (by decide) f6) fun v7 h7 n7 hn7 f7 ⟨o7, sA, e7, okA, bA, iA⟩ => ?_
  subst e7
  rw [ex9] at okA bA
  simp only [core1, execOp, opd, putT, put, nth, extract, getO, List.getElem?_cons_succ, List.getElem?_cons_zero, ex9, Option.getD_some, Option.isSome_some]
  rw [opv_alloc ti31 rfl]
  simp only [core1, execOp, opd, putT, put, nth, cel]
  refine opv_hold (v := .agg (vcells (endV (exv 3 0) 4 b9) sA)) ti31 rfl (vcells_len okA.h okA.b) (vcells_cell bA.kind.2.1) f7 fun H7 r7 p7 f7' => ?_
  simp only [core1, fgr, hkr, execOp, opd, opds, ofValue, ops2, putT, put, nth, forgetL, doCall, callV_func, List.nil_append, List.append_nil, build28z]
  have s7 := (s6.old hn7 o7).grow (n' := n7 + 1) (by omega) (fun j hj => p7 j (by omega))
  refine opv_callf f7' (f37k z0 0 4 rfl s7 (by decide) f7') fun v8 h8 n8 hn8 f8 ⟨o8, sB, e8, okB, bB, iB⟩ => ?_
  subst e8
  rw [ex10] at okB bB
  simp only [core1, execOp, opd, putT, put, nth, extract, getO, List.getElem?_cons_succ, List.getElem?_cons_zero, ex10, Option.getD_none, Option.isSome_none]
  rw [opv_alloc ti31 rfl]
  simp only [core1, execOp, opd, putT, put, nth, cel]
  refine opv_hold (v := .agg (vcells noV sB)) ti31 rfl (vcells_len okB.h okB.b) (vcells_cell bB.kind.2.1) f8 fun H8 r8 p8 f8' => ?_
  simp only [core1, fgr, hkr, execOp, opd, opds, ofValue, ops2, putT, put, nth, forgetL, doCall, callV_func, List.nil_append, List.append_nil, build28z]
  have s8 := (s7.old hn8 o8).old (n' := n8 + 1) (by omega) (fun j hj => p8 j (by omega))
  refine opv_callf f8' (f37k z0 0 5 rfl s8 (by decide) f8') fun v9 h9 n9 hn9 f9 ⟨o9, sC, e9, okC, bC, iC⟩ => ?_
  subst e9
  rw [ex11] at okC bC
  simp only [core1, execOp, opd, putT, put, nth, extract, getO, List.getElem?_cons_succ, List.getElem?_cons_zero, ex11, Option.getD_some, Option.isSome_some]
  rw [opv_alloc ti31 rfl]
  simp only [core1, execOp, opd, putT, put, nth, cel]
  refine opv_hold (v := .agg (vcells (exv 5 7) sC)) ti31 rfl (vcells_len okC.h okC.b) (vcells_cell bC.kind.2.1) f9 fun H9 r9 p9 f9' => ?_
  have s9 := (s8.old hn9 o9).grow (n' := n9 + 1) (by omega) (fun j hj => p9 j (by omega))
  have old9 : Old h H9 n := fun j hj => by rw [p9 j (by omega), o9 j (by omega), p8 j (by omega), o8 j (by omega), p7 j (by omega), o7 j (by omega), old6 j hj]
  have hb9 := hb6.keep (h' := H9) fun j q => by
    injection q with q; subst q
    rw [p9 _ (by omega), o9 _ (by omega), p8 _ (by omega), o8 _ (by omega), p7 _ (by omega), o7 _ (by omega)]
  have rA : Row H9 n7 (vcells (endV (exv 3 0) 4 b9) sA) := r7.keep (by rw [p9 _ (by omega), o9 _ (by omega), p8 _ (by omega), o8 _ (by omega)])
  simp only [core1, fgr, hkr, execOp, opd, opds, ofValue, ops2, putT, put, nth, forgetL, doCall, callV_func, List.nil_append, List.append_nil, build28z]
  refine opv_callf f9' (f38k z0 0 5 rfl s9 (by decide) f9') fun v10 h10 n10 hn10 f10 ⟨k10, hh⟩ => ?_
  rcases hh with ⟨_, e10, s10⟩ | ⟨w, hw, q, q2, _⟩
  rotate_left
  · exfalso
    rcases List.mem_cons.1 hw with q' | q'
    · rw [q'] at q
      exact absurd q ex12
    · rw [List.mem_singleton.1 q'] at q2
      exact absurd rfl q2
  subst e10
  simp only [core1, hkr, execOp, opd, opds, ofValue, ops2, putT, put, nth, doCall, callV_func, List.nil_append, List.append_nil, build28z]
  refine opv_callf f10 (f38k z0 0 3 rfl s10 (by decide) f10) fun v11 h11 n11 hn11 f11 ⟨k11, hh⟩ => ?_
  rcases hh with ⟨q, _⟩ | ⟨w, hw, q, q2, e11, s11⟩
  · have := q (endV (exv 3 0) 4 b9) List.mem_cons_self ex14
    exact absurd this (by decide)
  subst e11
  have ew : w = endV (exv 3 0) 4 b9 := by
    rcases List.mem_cons.1 hw with q' | q'
    · exact q'
    · rw [List.mem_singleton.1 q'] at q2
      exact absurd rfl q2
  subst ew
  rw [ex15] at s11
  have kk : ∀ j, (j < n ∨ j = n1) ∨ j = n7 ∨ j = n9 → h11 j = H9 j := fun j q => by
    have q' : ((j < n ∨ j = n1) ∨ n7 ≤ j ∧ j < n7 + 1) ∨ n9 ≤ j ∧ j < n9 + 1 := by
      rcases q with q | q | q
      · exact .inl (.inl q)
      · exact .inl (.inr (by omega))
      · exact .inr (by omega)
    rw [k11 j q', k10 j q']
  have old11 : Old h h11 n := fun j hj => by rw [kk j (.inl (.inl hj)), old9 j hj]
  have hb11 := hb9.keep (h' := h11) fun j q => kk j (by injection q with q; exact .inl (.inr q.symm))
  have rA' := rA.keep (kk n7 (.inr (.inl rfl)))
  have rC' := r9.keep (kk n9 (.inr (.inr rfl)))
  simp only [core1, tyr, fgr, execOp, opd, ofValue, putT, put, nth, forgetL, und, sizeOf, bor, binInt, shiftB, intOp, doPick, branch, getO, moved, fieldAddr, List.getElem?_cons_succ, List.getElem?_cons_zero, decide_true, Nat.zero_add, beq_self_eq_true]
  rw [opv_rd (row_made rA' okA)]
  simp only [core1, tyr, execOp, opd, ofValue, putT, put, nth, und, sizeOf, bor, binInt, shiftB, intOp, doPick, branch, getO, moved, fieldAddr, List.getElem?_cons_succ, List.getElem?_cons_zero, decide_true, Nat.zero_add, beq_self_eq_true, show (endV (exv 3 0) 4 b9).made = 3 from rfl]
  rw [opv_rd (row_spent rA' okA)]
  simp only [core1, tyr, execOp, opd, ofValue, putT, put, nth, und, sizeOf, bor, binInt, shiftB, intOp, unOp, doPick, branch, getO, moved, fieldAddr, List.getElem?_cons_succ, List.getElem?_cons_zero, decide_true, Bool.not_false, Nat.zero_add, beq_self_eq_true, show (endV (exv 3 0) 4 b9).spent = 4 from rfl]
  rw [opv_rd (row_value rC' okC)]
  simp only [core1, hkr, execOp, opd, opds, ofValue, putT, put, nth, doCall, callV_func, bor, binInt, shiftB, intOp, doPick, branch, List.getElem?_cons_succ, List.getElem?_cons_zero, List.nil_append, List.append_nil, decide_true, beq_self_eq_true, show (exv 5 7).value = 7 from rfl]
  refine opv_callf f11 (f43k _ [81] 9 s11 hb11 (fun j q => by injection q with q; omega) (by decide) f11) fun v12 h12 n12 hn12 f12 ⟨l12, o12⟩ => ?_
  obtain ⟨cells, c1, c2, c3⟩ := l12
  rw [ex16] at c1
  have bl := c1.rds.bLen (E := env) (ts := []) u43
  simp only [core1, fgr, execOp, opd, opds, ofValue, putT, put, nth, forgetL, doCall, builtin, one1, bor, binInt, shiftB, intOp, doPick, branch, List.getElem?_cons_succ, List.getElem?_cons_zero, int_beq, decide_true, true_and, bl]
  exact ⟨rfl, fun j hj => by rw [o12 j (by omega), old11 j hj]⟩
/- Versions and calls as arguments; what is more than statements go through. -/
theorem k5 : Try.prog.cellsOf 5 = 1 := by kernel_rfl
theorem k2 : Try.prog.cellsOf 2 = 1 := by kernel_rfl
theorem k3 : Try.prog.cellsOf 3 = 1 := by kernel_rfl
theorem k4 : Try.prog.cellsOf 4 = 1 := by kernel_rfl
theorem k25 : Try.prog.cellsOf 25 = 32 := by kernel_rfl
theorem k26 : Try.prog.cellsOf 26 = 1 := by kernel_rfl
theorem k28 : Try.prog.cellsOf 28 = 33 := by kernel_rfl
theorem k29 : Try.prog.cellsOf 29 = 1 := by kernel_rfl
theorem k31 : Try.prog.cellsOf 31 = 70 := by kernel_rfl
theorem k91 : Try.prog.cellsOf 91 = 72 := by kernel_rfl
theorem ty_u8 (b : UInt8) : toByte (u8 b) = b := by simp [toByte, u8]
theorem arg_hash {vs : List AVal} (ha : Arg Try.prog 25 vs) : ∃ l : List UInt8, vs = l.map u8 ∧ l.length = 32 := by
  obtain ⟨hl, he⟩ := ha.array_inv Try.underlying25
  rw [k25] at hl
  refine ⟨vs.map toByte, ?_, by simpa using hl⟩
  rw [List.map_map]
  refine List.ext_getElem (by simp) fun i h1 h2 => ?_
  have q := he i (by omega)
  rw [k5, Nat.mul_one] at q
  obtain ⟨z, e, hw⟩ := q.int_inv Try.underlying5
  have e' : vs[i] = .int .u8 z := by
    have : ((vs.drop i).take 1)[0]? = some vs[i] := by simp [List.getElem?_drop, h1]
    rw [e] at this
    simpa using this.symm
  rw [List.getElem_map, Function.comp, e']
  have : AVal.int .u8 z = u8 (byteOf z) := by rw [u8, byteOf_eq hw]
  rw [this, ty_u8]
theorem chop (vs : List AVal) (a k : Nat) : vs.drop a = (vs.drop a).take k ++ vs.drop (a + k) := by
  rw [← List.drop_drop, List.take_append_drop]
theorem arg_point {vs : List AVal} (ha : Arg Try.prog 28 vs) : ∃ (hash : List UInt8) (pn : Int), vs = pcells hash pn ∧ hash.length = 32 ∧ 0 ≤ pn := by
  obtain ⟨hl, he⟩ := ha.struct_inv Try.underlying28
  rw [k28] at hl
  have q0 : Arg Try.prog 25 ((vs.drop 0).take (Try.prog.cellsOf 25)) := he 0 _ rfl
  have q1 : Arg Try.prog 26 ((vs.drop 32).take (Try.prog.cellsOf 26)) := he 1 _ rfl
  rw [k25] at q0
  rw [k26] at q1
  obtain ⟨hash, e0, hh⟩ := arg_hash q0
  obtain ⟨pn, e1, hw⟩ := q1.int_inv Try.underlying26
  refine ⟨hash, pn, ?_, hh, ?_⟩
  · have c0 := chop vs 0 32
    have c1 := chop vs (0 + 32) 1
    rw [List.drop_zero] at c0
    rw [List.drop_zero] at e0
    rw [e0, c1, e1, List.drop_eq_nil_of_le (show vs.length ≤ 0 + 32 + 1 by omega)] at c0
    rw [c0]; rfl
  · simp only [Lit.wf, Bool.and_eq_true, decide_eq_true_eq] at hw
    exact hw.1
/-- A version that was handed in. -/
structure ArgVer (v : Ver) (sv : AVal) : Prop where
  ok : v.Ok
  pn : 0 ≤ v.pn
  s : ArgBytes sv v.script
  sl : v.script.length ≤ maxLen
  m : (Lit.int .i64 v.made).wf = true
theorem argB_id {v : AVal} {l : List UInt8} (hv : ArgBytes v l) : ownId v = none := by
  cases hi : ownId v with
  | none => rfl
  | some j => exact absurd (below_own (hv.below 0) hi) (Nat.not_lt_zero j)
theorem arg_ver {vs : List AVal} (ha : Arg Try.prog 31 vs) : ∃ v sv, vs = vcells v sv ∧ ArgVer v sv := by
  obtain ⟨hl, he⟩ := ha.struct_inv Try.underlying31
  rw [k31] at hl
  have q0 : Arg Try.prog 28 ((vs.drop 0).take (Try.prog.cellsOf 28)) := he 0 _ rfl
  have q1 : Arg Try.prog 3 ((vs.drop 33).take (Try.prog.cellsOf 3)) := he 1 _ rfl
  have q2 : Arg Try.prog 2 ((vs.drop 34).take (Try.prog.cellsOf 2)) := he 2 _ rfl
  have q3 : Arg Try.prog 29 ((vs.drop 35).take (Try.prog.cellsOf 29)) := he 3 _ rfl
  have q4 : Arg Try.prog 4 ((vs.drop 36).take (Try.prog.cellsOf 4)) := he 4 _ rfl
  have q5 : Arg Try.prog 3 ((vs.drop 37).take (Try.prog.cellsOf 3)) := he 5 _ rfl
  have q6 : Arg Try.prog 25 ((vs.drop 38).take (Try.prog.cellsOf 25)) := he 6 _ rfl
  rw [k28] at q0
  rw [k3] at q1 q5
  rw [k2] at q2
  rw [k29] at q3
  rw [k4] at q4
  rw [k25] at q6
  obtain ⟨hash, pn, e0, hh, hp⟩ := arg_point q0
  obtain ⟨made, e1, w1⟩ := q1.int_inv Try.underlying3
  obtain ⟨value, e2, w2⟩ := q2.int_inv Try.underlying2
  have e3 : ∃ sv, (vs.drop 35).take 1 = [sv] := by
    have : ((vs.drop 35).take 1).length = 1 := by simp; omega
    exact List.length_eq_one_iff.1 this
  obtain ⟨sv, e3⟩ := e3
  rw [e3] at q3
  obtain ⟨script, hb, hbl⟩ := arg_bytes Try.underlying29 Try.underlying5 k5 q3
  obtain ⟨base, e4⟩ := q4.bool_inv Try.underlying4
  obtain ⟨spent, e5, w5⟩ := q5.int_inv Try.underlying3
  obtain ⟨by_, e6, hby⟩ := arg_hash q6
  refine ⟨⟨hash, pn, made, value, script, base, spent, by_⟩, sv, ?_, ⟨⟨hh, hby⟩, hp, hb, hbl, w1⟩⟩
  have c0 := chop vs 0 33
  rw [List.drop_zero] at c0
  rw [List.drop_zero] at e0
  rw [e0, chop vs (0 + 33) 1, e1, chop vs (0 + 33 + 1) 1, e2, chop vs (0 + 33 + 1 + 1) 1, e3, chop vs (0 + 33 + 1 + 1 + 1) 1, e4, chop vs (0 + 33 + 1 + 1 + 1 + 1) 1, e5, chop vs (0 + 33 + 1 + 1 + 1 + 1 + 1) 32, e6, List.drop_eq_nil_of_le (show vs.length ≤ 0 + 33 + 1 + 1 + 1 + 1 + 1 + 32 by omega)] at c0
  rw [c0]
  simp [vcells, vtail]
/-- A call. -/
structure OpI where
  kind : Int
  v : Ver
  at_ : Int
def ocells (o : OpI) (sv : AVal) : List AVal := .int .i64 o.kind :: (vcells o.v sv ++ [.int .i64 o.at_])
theorem ocells_len {o : OpI} {sv : AVal} (h : o.v.Ok) : (ocells o sv).length = 72 := by
  simp [ocells, vcells_len h.h h.b]
/-- Calls that were handed in. -/
structure ArgOps (a : AVal) (os : List OpI) (xs : List AVal) : Prop where
  rd : ∀ h, Rds h 72 a os.length xs
  id : ownId a = none
  len : os.length ≤ maxLen
  at_ : ∀ j (hj : j < os.length), ∃ sv, (xs.drop (j * 72)).take 72 = ocells os[j] sv ∧ ArgVer os[j].v sv
theorem cut_len (f : Nat → AVal) (o n : Nat) : (cut f o n).length = n := by simp [cut]
theorem cut_get (f : Nat → AVal) (o n : Nat) {j : Nat} (h : j < (cut f o n).length) : (cut f o n)[j] = f (o + j) := by simp [cut]
theorem cut_sub (f : Nat → AVal) (o n a b : Nat) (h : a + b ≤ n) : ((cut f o n).drop a).take b = cut f (o + a) b := by
  refine List.ext_getElem (by simp [cut]; omega) fun i h1 h2 => ?_
  rw [List.getElem_take, List.getElem_drop, cut_get, cut_get, Nat.add_assoc]
theorem arg_ops {a : AVal} (ha : Arg Try.prog 65 [a]) : ∃ os xs, ArgOps a os xs := by
  rcases ha.slice_inv Try.underlying65 (by rw [k91]; omega) with h | ⟨f, len, h, hl, hx⟩
  · injection h with h; subst h
    exact ⟨[], [], fun h => .nils, rfl, Nat.zero_le _, fun j hj => by simp at hj⟩
  · injection h with h
    subst h
    rw [k91] at hx ⊢
    have each : ∀ i, ∃ p : OpI × AVal, i < len → cut f (i * 72) 72 = ocells p.1 p.2 ∧ ArgVer p.1.v p.2 := fun i => by
      by_cases hi : i < len
      · obtain ⟨hl, he⟩ := (hx i hi).struct_inv Try.underlying91
        have q0 : Arg Try.prog 3 (((cut f (i * 72) 72).drop 0).take (Try.prog.cellsOf 3)) := he 0 _ rfl
        have q1 : Arg Try.prog 31 (((cut f (i * 72) 72).drop 1).take (Try.prog.cellsOf 31)) := he 1 _ rfl
        have q2 : Arg Try.prog 3 (((cut f (i * 72) 72).drop 71).take (Try.prog.cellsOf 3)) := he 2 _ rfl
        rw [k3] at q0 q2
        rw [k31] at q1
        obtain ⟨kind, e0, _⟩ := q0.int_inv Try.underlying3
        obtain ⟨v, sv, e1, hv⟩ := arg_ver q1
        obtain ⟨at_, e2, _⟩ := q2.int_inv Try.underlying3
        refine ⟨(⟨kind, v, at_⟩, sv), fun _ => ⟨?_, hv⟩⟩
        have c0 := chop (cut f (i * 72) 72) 0 1
        rw [List.drop_zero] at c0
        rw [List.drop_zero] at e0
        rw [e0, chop _ (0 + 1) 70, e1, chop _ (0 + 1 + 70) 1, e2, List.drop_eq_nil_of_le (by rw [cut_len]; omega)] at c0
        rw [c0]
        simp [ocells]
      · exact ⟨(⟨0, noV, 0⟩, .nils), fun q => absurd q hi⟩
    obtain ⟨b, hb⟩ := Classical.axiomOfChoice each
    refine ⟨(List.range len).map fun i => (b i).1, cut f 0 (len * 72), fun h => ?_, rfl, by simpa using hl, fun j hj => ?_⟩
    · have := Rds.isl (h := h) (sz := 72) f 0 len (cut f 0 (len * 72)) (by rw [cut_len]) (fun j hj => by rw [cut_get])
      simpa using this
    · simp only [List.length_map, List.length_range] at hj
      simp only [List.getElem_map, List.getElem_range]
      rw [cut_sub _ _ _ _ _ (by omega), Nat.zero_add]
      exact ⟨(b j).2, hb j hj⟩
theorem u65 : und env 65 = M.pure (.slice 91) := rfl
theorem z91 : sizeOf env 91 = M.pure 72 := rfl
/-- An element of a list of pieces. -/
theorem piece {xs ys : List AVal} {a b i : Nat} (h : (xs.drop a).take b = ys) (hi : i < b) : xs[a + i]? = ys[i]? := by
  rw [← h, List.getElem?_take, if_pos hi, List.getElem?_drop]
theorem ocells_v {o : OpI} {sv : AVal} {i : Nat} (h : o.v.Ok) (hi : i < 70) : (ocells o sv)[i + 1]? = (vcells o.v sv)[i]? := by
  unfold ocells
  rw [List.getElem?_cons_succ, List.getElem?_append_left (by rw [vcells_len h.h h.b]; omega)]
def overI (o : OpI) : Bool := decide (200 < o.v.script.length)
def greatI (os : List OpI) : Bool := os.any overI || decide (80 < os.length)
theorem loop30 (Q : Post0) (ks : List Kf) (a : AVal) (os : List OpI) (xs : List AVal) (h : Hp) (n : Nat) (ha : ArgOps a os xs)
    (hq : ∀ (x3 x7 x16 : AVal), os.any overI = false → Kont env 30 none Q ks (.exit 0) (a :: AVal.junk :: .bool false :: x3 :: AVal.junk :: .int .i64 (os.length : Nat) :: .int .i64 (os.length : Nat) :: x7 :: AVal.junk :: AVal.junk :: AVal.junk :: AVal.junk :: AVal.junk :: AVal.junk :: AVal.junk :: AVal.junk :: x16 :: AVal.junk :: AVal.junk :: AVal.junk :: AVal.junk :: []) h n)
    (hr : ∀ (x3 x7 x16 : AVal) (z : AVal), os.any overI = true → Kont env 30 none Q ks .ret (a :: AVal.junk :: .bool true :: x3 :: AVal.junk :: .int .i64 (os.length : Nat) :: z :: x7 :: AVal.junk :: AVal.junk :: AVal.junk :: AVal.junk :: AVal.junk :: AVal.junk :: AVal.junk :: AVal.junk :: x16 :: AVal.junk :: AVal.junk :: AVal.junk :: AVal.junk :: []) h n) :
    ∀ (m i : Nat) (x3 x7 x16 : AVal), i + m = os.length → (os.take i).any overI = false →
    Run env 30 none Q (.loop lp30_0) ks (a :: AVal.junk :: .bool false :: x3 :: AVal.junk :: .int .i64 (os.length : Nat) :: .int .i64 (i : Nat) :: x7 :: AVal.junk :: AVal.junk :: AVal.junk :: AVal.junk :: AVal.junk :: AVal.junk :: AVal.junk :: AVal.junk :: x16 :: AVal.junk :: AVal.junk :: AVal.junk :: AVal.junk :: []) h n := by
  have hlen := ha.len
  have hm : maxLen = 9223372036854775807 := rfl
  intro m
  induction m with
  | zero =>
    intro i x3 x7 x16 hi hs
    have : i = os.length := by omega
    subst this
    have hc : ¬ ((os.length : Nat) : Int) < ((os.length : Nat) : Int) := by omega
    rw [run_loop]
    simp only [lp30_0, loopsOf, Try.f30, Option.getD_some, core1, fgr, execOp, opd, putT, put, nth, forgetL, bor, binInt, shiftB, intOp, List.nil_append, List.append_nil, decide_true, decide_false, List.getD_cons_zero, hc]
    rw [List.take_length] at hs
    exact hq _ _ _ hs
  | succ m ih =>
    intro i x3 x7 x16 hi hs
    have hil : i < os.length := by omega
    have hc : ((i : Nat) : Int) < ((os.length : Nat) : Int) := by omega
    have hwr : IntKind.i64.wrap (((i : Nat) : Int) + 1) = ((i + 1 : Nat) : Int) := by rw [w64 (by omega) (by omega)]; omega
    obtain ⟨sv, e, hv⟩ := ha.at_ i hil
    have hr0 := ha.rd h
    have m1 := moved_adr hr0 (by omega) (i * 72) 1
    have m2 := moved_adr hr0 (by omega) (i * 72 + 1) 35
    have hx : xs[i * 72 + 1 + 35]? = some sv := by
      rw [show i * 72 + 1 + 35 = i * 72 + (35 + 1) by omega, piece e (by omega), ocells_v hv.ok (by omega)]
      exact vcells_t hv.ok.h 2
    rw [run_loop]
    simp only [lp30_0, loopsOf, Try.f30, Option.getD_some, core1, fgr, execOp, opd, putT, put, nth, forgetL, bor, binInt, shiftB, intOp, List.nil_append, List.append_nil, decide_true, List.getD_cons_zero, hc]
    rw [opv_rd (hr0.idx (j := i) u65 z91 rfl hil)]
    simp only [core1, tyr, execOp, opd, putT, put, nth, und, sizeOf, getO, fieldAddr, List.getElem?_cons_succ, List.getElem?_cons_zero, m1, m2]
    rw [opv_rd (hr0.load (k := i * 72 + 1 + 35) ti29 rfl hx)]
    by_cases hov : 200 < os[i].v.script.length
    · have hc2 : 200 < ((os[i].v.script.length : Nat) : Int) := by omega
      simp only [core1, fgr, execOp, opd, opds, ofValue, putT, put, nth, forgetL, doCall, builtin, one1, bor, binInt, shiftB, intOp, gt_iff_lt, decide_true, (hv.s.bytes h).bLen t29, hc2]
      exact hr _ _ _ _ (List.any_eq_true.2 ⟨_, List.getElem_mem hil, decide_eq_true hov⟩)
    · have hc2 : ¬ 200 < ((os[i].v.script.length : Nat) : Int) := by omega
      simp only [core1, fgr, execOp, opd, opds, ofValue, putT, put, nth, forgetL, doCall, builtin, one1, bor, binInt, shiftB, intOp, wrapI, gt_iff_lt, decide_true, decide_false, (hv.s.bytes h).bLen t29, hc2, hwr]
      refine ih (i + 1) _ _ _ (by omega) ?_
      rw [List.take_add_one, List.getElem?_eq_getElem hil, Option.toList_some, List.any_append, hs]
      simp [overI, hov]
theorem f30 (a : AVal) (os : List OpI) (xs : List AVal) (h : Hp) (n : Nat) (ha : ArgOps a os xs) :
    Wp (callI env (evalW env) 30 [a]) h n fun v' h' n' => v' = .bool (greatI os) ∧ h' = h ∧ n' = n := by
  refine wp_callI ff30 fi30 ?_
  have hr0 := ha.rd h
  simp only [fu30, Try.f30, Option.getD_some, List.replicate, core1, fgr, execOp, opd, opds, ofValue, putT, put, nth, forgetL, doCall, builtin, one1, ended, resultOf, oneOrTup, List.cons_append, List.nil_append, List.length_cons, List.length_nil, Nat.reduceSub, Nat.zero_add, wp_pure, hr0.bLen u65]
  refine loop30 _ _ a os xs h n ha ?_ ?_ os.length 0 _ _ _ (by omega) rfl
  · intro x3 x7 x16 hn
    by_cases h80 : 80 < os.length
    · have hc : 80 < ((os.length : Nat) : Int) := by omega
      simp only [core1, fgr, execOp, opd, opds, ofValue, putT, put, nth, forgetL, doCall, builtin, one1, bor, binInt, shiftB, intOp, gt_iff_lt, decide_true, Bool.or_true, and_self, hr0.bLen u65, hc, greatI, hn, h80]
    · have hc : ¬ 80 < ((os.length : Nat) : Int) := by omega
      simp only [core1, fgr, execOp, opd, opds, ofValue, putT, put, nth, forgetL, doCall, builtin, one1, bor, binInt, shiftB, intOp, gt_iff_lt, decide_true, decide_false, Bool.or_false, and_self, hr0.bLen u65, hc, greatI, hn, h80]
  · intro x3 x7 x16 z hn
    simp only [core1, nth, Bool.true_or, and_self, greatI, hn]
theorem great_false {os : List OpI} (h : greatI os = false) : os.length ≤ 80 ∧ ∀ o ∈ os, o.v.script.length ≤ 200 := by
  unfold greatI at h
  simp only [Bool.or_eq_false_iff, decide_eq_false_iff_not] at h
  refine ⟨by omega, fun o ho => ?_⟩
  by_cases q : 200 < o.v.script.length
  · rw [List.any_eq_true.2 ⟨o, ho, decide_eq_true q⟩] at h; cases h.1
  · omega
/- An index behind calls. -/
section
variable {h : Hp} {n id : Nat} {o : OpI} {sv : AVal}
theorem orow_kind (hr : Row h id (ocells o sv)) : Rd (load env 3 (.ptr id 0)) h n [id] (.int .i64 o.kind) := hr.one rfl ti3 rfl
theorem orow_made (hr : Row h id (ocells o sv)) (ho : o.v.Ok) : Rd (load env 3 (.ptr id 34)) h n [id] (.int .i64 o.v.made) := hr.one ((ocells_v ho (by omega)).trans (vcells_t ho.h 0)) ti3 rfl
theorem orow_at (hr : Row h id (ocells o sv)) (ho : o.v.Ok) : Rd (load env 3 (.ptr id 71)) h n [id] (.int .i64 o.at_) := hr.one (by
  unfold ocells
  rw [List.getElem?_cons_succ, List.getElem?_append_right (by rw [vcells_len ho.h ho.b]; omega), vcells_len ho.h ho.b]; rfl) ti3 rfl
theorem orow_v (hr : Row h id (ocells o sv)) (ho : o.v.Ok) : Rd (load env 31 (.ptr id 1)) h n [id] (.agg (vcells o.v sv)) := by
  have := hr.agg (E := env) (n := n) (off := 1) ti31 rfl (by rw [ocells_len ho]; decide)
  have e : ((ocells o sv).drop 1).take 70 = vcells o.v sv := by
    unfold ocells
    rw [List.drop_one, List.tail_cons, List.take_append_of_le_length (by rw [vcells_len ho.h ho.b]; omega), List.take_of_length_le (by rw [vcells_len ho.h ho.b]; omega)]
  exact e ▸ this
theorem orow_pt (hr : Row h id (ocells o sv)) (ho : o.v.Ok) : Rd (load env 28 (.ptr id 1)) h n [id] (.agg (pcells o.v.hash o.v.pn)) := by
  have := hr.agg (E := env) (n := n) (off := 1) ti28 rfl (by rw [ocells_len ho]; decide)
  have e : ((ocells o sv).drop 1).take 33 = pcells o.v.hash o.v.pn := by
    unfold ocells
    rw [List.drop_one, List.tail_cons, List.take_append_of_le_length (by rw [vcells_len ho.h ho.b]; omega), vcells_p ho.h]
  exact e ▸ this
theorem orow_by (hr : Row h id (ocells o sv)) (ho : o.v.Ok) : Rd (load env 25 (.ptr id 39)) h n [id] (.agg (o.v.by_.map u8)) := by
  have := hr.agg (E := env) (n := n) (off := 39) ti25 rfl (by rw [ocells_len ho]; decide)
  have e : ((ocells o sv).drop 39).take 32 = o.v.by_.map u8 := by
    unfold ocells
    rw [show 39 = 38 + 1 from rfl, List.drop_succ_cons]
    unfold vcells
    rw [List.append_assoc, List.drop_append, List.drop_eq_nil_of_le (by rw [pcells_len ho.h]; omega), pcells_len ho.h]
    show (([] : List AVal) ++ (o.v.by_.map u8 ++ [AVal.int .i64 o.at_])).take 32 = _
    rw [List.nil_append, List.take_append_of_le_length (by simp [ho.b]), List.take_of_length_le (by simp [ho.b])]
  exact e ▸ this
end
theorem dropV_len {L : List Ver} {w : Ver} (r : Rises false L) (hw : w ∈ L) : (dropV L w).length + 1 = L.length := by
  obtain ⟨hp, _⟩ := pos_at r (pos_pos r w) hw
  exact ((delL_perm hp).length_eq.trans rfl).symm
theorem ocells_cell {o : OpI} {sv : AVal} (h : oneCell sv = true) : (ocells o sv).all oneCell = true := by
  unfold ocells
  rw [List.all_cons, List.all_append, vcells_cell h]; rfl
/-- What calls make: so many versions at most, with scripts so long at most. -/
structure Small (L : List Ver) (i : Nat) : Prop where
  len : L.length ≤ i
  s : ∀ v ∈ L, v.script.length ≤ 200
theorem Small.set {L : List Ver} {i : Nat} {w v : Ver} (s : Small L i) (hw : w ∈ L) (hv : v.script = w.script) : Small (setV L w v) (i + 1) :=
  ⟨by rw [setV_len]; have := s.len; omega, fun u hu => by
    rcases setV_mem hu with rfl | hu
    · rw [hv]; exact s.s w hw
    · exact s.s u hu⟩
theorem loop31 (Q : Post0) (ks : List Kf) (a : AVal) (os : List OpI) (xs : List AVal) (K : Nat → Prop) (x : Nat) (h0 : Hp) (ha : ArgOps a os xs) (hl : os.length ≤ 80) (hsc : ∀ o ∈ os, o.v.script.length ≤ 200)
    (hT : ∀ (h : Hp) (n : Nat) (L : List Ver) (x5 x10 x14 x15 x21 x36 x46 : AVal), Ixk K h n x L → Small L os.length → Free h n → (∀ j, K j → h j = h0 j) → Kont env 31 none Q ks (.exit 0) (a :: AVal.junk :: .nilp :: .ptr x 0 :: AVal.junk :: x5 :: AVal.junk :: a :: .int .i64 (os.length : Nat) :: .int .i64 (os.length : Nat) :: x10 :: AVal.junk :: AVal.junk :: AVal.junk :: x14 :: x15 :: AVal.junk :: AVal.junk :: AVal.junk :: AVal.junk :: AVal.junk :: x21 :: AVal.junk :: AVal.junk :: AVal.junk :: AVal.junk :: AVal.junk :: AVal.junk :: AVal.junk :: AVal.junk :: AVal.junk :: AVal.junk :: AVal.junk :: AVal.junk :: AVal.junk :: AVal.junk :: x36 :: AVal.junk :: AVal.junk :: AVal.junk :: AVal.junk :: AVal.junk :: AVal.junk :: AVal.junk :: AVal.junk :: AVal.junk :: x46 :: AVal.junk :: AVal.junk :: AVal.junk :: AVal.junk :: AVal.junk :: AVal.junk :: AVal.junk :: AVal.junk :: AVal.junk :: AVal.junk :: AVal.junk :: []) h n) :
    ∀ (m i : Nat) (h : Hp) (n : Nat) (L : List Ver) (x5 x10 x14 x15 x21 x36 x46 : AVal), i + m = os.length → Ixk K h n x L → Small L i → Free h n → (∀ j, K j → h j = h0 j) →
      Run env 31 none Q (.loop lp31_0) ks (a :: AVal.junk :: .nilp :: .ptr x 0 :: AVal.junk :: x5 :: AVal.junk :: a :: .int .i64 (os.length : Nat) :: .int .i64 (i : Nat) :: x10 :: AVal.junk :: AVal.junk :: AVal.junk :: x14 :: x15 :: AVal.junk :: AVal.junk :: AVal.junk :: AVal.junk :: AVal.junk :: x21 :: AVal.junk :: AVal.junk :: AVal.junk :: AVal.junk :: AVal.junk :: AVal.junk :: AVal.junk :: AVal.junk :: AVal.junk :: AVal.junk :: AVal.junk :: AVal.junk :: AVal.junk :: AVal.junk :: x36 :: AVal.junk :: AVal.junk :: AVal.junk :: AVal.junk :: AVal.junk :: AVal.junk :: AVal.junk :: AVal.junk :: AVal.junk :: x46 :: AVal.junk :: AVal.junk :: AVal.junk :: AVal.junk :: AVal.junk :: AVal.junk :: AVal.junk :: AVal.junk :: AVal.junk :: AVal.junk :: AVal.junk :: []) h n := by
  intro m
  induction m with
  | zero =>
    intro i h n L x5 x10 x14 x15 x21 x36 x46 hm hs hS hf ho
    have : i = os.length := by omega
    subst this
    rw [run_loop]
    have hcc : ¬ (((os.length : Nat) : Int) < ((os.length : Nat) : Int)) := by omega
    simp only [lp31_0, loopsOf, Try.f31, Option.getD_some, core1, fgr, execOp, opd, putT, put, nth, forgetL, bor, binInt, shiftB, intOp, List.nil_append, List.append_nil, decide_true, decide_false, List.getD_cons_zero, hcc]
    exact hT h n L _ _ _ _ _ _ _ hs hS hf ho
  | succ m ih =>
    intro i h n L x5 x10 x14 x15 x21 x36 x46 hm hs hS hf ho
    have hil : i < os.length := by omega
    have hcc : (((i : Nat) : Int) < ((os.length : Nat) : Int)) := by omega
    have w1 : IntKind.i64.wrap (((i : Nat) : Int) + 1) = ((i + 1 : Nat) : Int) := by rw [w64 (by omega) (by omega)]; omega
    obtain ⟨sv, e, hv⟩ := ha.at_ i hil
    have hr0 := ha.rd h
    have hmem : os[i] ∈ os := List.getElem_mem hil
    generalize hoi : os[i] = o at *
    have hld := hr0.agg (E := env) (n := n) (k := i * 72) ti91 rfl (by decide) (by show i * 72 + 72 ≤ _; rw [hr0.length]; omega)
    have hld' : Rd (load env 91 (addrOf (i * 72) a)) h n (rid a) (.agg (ocells o sv)) := by
      have e' : (xs.drop (i * 72)).take 72 = ocells o sv := e
      exact e' ▸ hld
    have svk := (hv.s.bytes h).kind
    rw [run_loop]
    simp only [lp31_0, loopsOf, Try.f31, Option.getD_some, core1, fgr, execOp, opd, putT, put, nth, forgetL, bor, binInt, shiftB, intOp, List.nil_append, List.append_nil, decide_true, List.getD_cons_zero, hcc]
    rw [opv_rd (hr0.idx (j := i) u65 z91 rfl hil)]
    simp only [core1, execOp, opd, putT, put, nth]
    rw [opv_rd hld']
    simp only [core1, execOp, putT, put]
    rw [opv_alloc ti91 rfl]
    simp only [core1, execOp, opd, putT, put, nth, cel]
    refine opv_hold (v := .agg (ocells o sv)) ti91 rfl (ocells_len hv.ok) (ocells_cell svk.2.1) hf fun H1 r1 p1 f1 => ?_
    have s1 := hs.old (n' := n + 1) (by omega) (fun j hj => p1 j (by omega))
    have ho1 : ∀ j, K j → H1 j = h0 j := fun j hj => by rw [p1 j (by have := hs.k hj; omega), ho j hj]
    have hc9 : L.length ≤ 900000 := by have := hS.len; omega
    have hsl : o.v.script.length ≤ 200 := hsc o hmem
    have hS1 : Small L (i + 1) := ⟨by have := hS.len; omega, hS.s⟩
    simp only [core1, tyr, fgr, execOp, opd, putT, put, nth, forgetL, und, sizeOf, getO, moved, fieldAddr, List.getElem?_cons_zero, Nat.zero_add]
    rw [opv_rd (orow_kind r1)]
    simp only [core1, fgr, execOp, opd, ofValue, putT, put, nth, forgetL, bor, binInt, shiftB, intOp, int_beq, decide_true]
    by_cases c0 : o.kind = 0
    · simp only [core1, tyr, execOp, opd, putT, put, nth, und, sizeOf, getO, moved, fieldAddr, List.getElem?_cons_succ, List.getElem?_cons_zero, decide_true, Nat.zero_add, c0]
      rw [opv_rd (orow_v r1 hv.ok)]
      simp only [core1, hkr, execOp, opd, opds, putT, put, nth, doCall, callV_func, List.nil_append, List.append_nil]
      refine opv_callf f1 (f33k o.v sv hv.ok hv.pn (by omega) s1 (hv.s.bytes _) (fun j q => by rw [argB_id hv.s] at q; cases q) hc9 f1) fun v2 h2 n2 hn2 f2 ⟨k2, hh⟩ => ?_
      have ho2 : ∀ j, K j → h2 j = h0 j := fun j hj => by rw [k2 j hj, ho1 j hj]
      rcases hh with ⟨_, e2, s2⟩ | ⟨_, e2, s2⟩
      · subst e2
        simp only [core1, fgr, execOp, opd, ofValue, putT, put, nth, forgetL, bor, binInt, shiftB, intOp, wrapI, decide_true, w1]
        exact ih (i + 1) h2 n2 L _ _ _ _ _ _ _ (by omega) s2 hS1 f2 ho2
      · subst e2
        simp only [core1, fgr, execOp, opd, ofValue, putT, put, nth, forgetL, bor, binInt, shiftB, intOp, wrapI, decide_true, w1]
        exact ih (i + 1) h2 n2 _ _ _ _ _ _ _ _ (by omega) s2 ⟨by rw [putV_len]; have := hS.len; omega, fun u hu => by
          rcases putV_mem.1 hu with rfl | hu
          · exact hsl
          · exact hS.s u hu⟩ f2 ho2
    by_cases c1 : o.kind = 1
    · simp only [core1, tyr, fgr, execOp, opd, ofValue, putT, put, nth, forgetL, und, sizeOf, bor, binInt, shiftB, intOp, getO, moved, fieldAddr, List.getElem?_cons_succ, List.getElem?_cons_zero, Int.reduceEq, decide_true, decide_false, Nat.zero_add, Nat.add_zero, beq_self_eq_true, c1]
      rw [opv_rd (orow_pt r1 hv.ok)]
      simp only [core1, tyr, execOp, opd, putT, put, nth, und, sizeOf, getO, moved, fieldAddr, List.getElem?_cons_succ, List.getElem?_cons_zero, Nat.reduceAdd, Nat.zero_add]
      rw [opv_rd (orow_made r1 hv.ok)]
      simp only [core1, tyr, execOp, opd, putT, put, nth, und, sizeOf, getO, moved, fieldAddr, List.getElem?_cons_succ, List.getElem?_cons_zero, Nat.zero_add]
      rw [opv_rd (orow_at r1 hv.ok)]
      simp only [core1, tyr, execOp, opd, putT, put, nth, und, sizeOf, getO, moved, fieldAddr, List.getElem?_cons_succ, List.getElem?_cons_zero, Nat.reduceAdd, Nat.zero_add]
      rw [opv_rd (orow_by r1 hv.ok)]
      simp only [core1, hkr, execOp, opd, opds, putT, put, nth, doCall, callV_func, List.nil_append, List.append_nil]
      refine opv_callf f1 (f36k o.v.hash o.v.pn o.v.made o.at_ o.v.by_ hv.ok.h hv.ok.b s1 hc9 f1) fun v2 h2 n2 hn2 f2 ⟨k2, hh⟩ => ?_
      have ho2 : ∀ j, K j → h2 j = h0 j := fun j hj => by rw [k2 j hj, ho1 j hj]
      rcases hh with ⟨_, e2, s2⟩ | ⟨w, hw, _, _, _, _, e2, s2⟩
      · subst e2
        simp only [core1, fgr, execOp, opd, ofValue, putT, put, nth, forgetL, bor, binInt, shiftB, intOp, wrapI, decide_true, w1]
        exact ih (i + 1) h2 n2 L _ _ _ _ _ _ _ (by omega) s2 hS1 f2 ho2
      · subst e2
        simp only [core1, fgr, execOp, opd, ofValue, putT, put, nth, forgetL, bor, binInt, shiftB, intOp, wrapI, decide_true, w1]
        exact ih (i + 1) h2 n2 _ _ _ _ _ _ _ _ (by omega) s2 (hS.set hw rfl) f2 ho2
    by_cases c2 : o.kind = 2
    · simp only [core1, tyr, fgr, execOp, opd, ofValue, putT, put, nth, forgetL, und, sizeOf, bor, binInt, shiftB, intOp, getO, moved, fieldAddr, List.getElem?_cons_succ, List.getElem?_cons_zero, int_beq, Int.reduceEq, decide_true, decide_false, Nat.zero_add, Nat.add_zero, beq_self_eq_true, c2]
      rw [opv_rd (orow_pt r1 hv.ok)]
      simp only [core1, tyr, execOp, opd, putT, put, nth, und, sizeOf, getO, moved, fieldAddr, List.getElem?_cons_succ, List.getElem?_cons_zero, Nat.reduceAdd, Nat.zero_add]
      rw [opv_rd (orow_made r1 hv.ok)]
      simp only [core1, hkr, execOp, opd, opds, putT, put, nth, doCall, callV_func, List.nil_append, List.append_nil]
      refine opv_callf f1 (f38k o.v.hash o.v.pn o.v.made hv.ok.h s1 hc9 f1) fun v2 h2 n2 hn2 f2 ⟨k2, hh⟩ => ?_
      have ho2 : ∀ j, K j → h2 j = h0 j := fun j hj => by rw [k2 j hj, ho1 j hj]
      rcases hh with ⟨_, e2, s2⟩ | ⟨w, hw, _, _, e2, s2⟩
      · subst e2
        simp only [core1, fgr, execOp, opd, ofValue, putT, put, nth, forgetL, bor, binInt, shiftB, intOp, wrapI, decide_true, w1]
        exact ih (i + 1) h2 n2 L _ _ _ _ _ _ _ (by omega) s2 hS1 f2 ho2
      · subst e2
        simp only [core1, fgr, execOp, opd, ofValue, putT, put, nth, forgetL, bor, binInt, shiftB, intOp, wrapI, decide_true, w1]
        exact ih (i + 1) h2 n2 _ _ _ _ _ _ _ _ (by omega) s2 (hS.set hw rfl) f2 ho2
    by_cases c3 : o.kind = 3
    · simp only [core1, tyr, fgr, execOp, opd, ofValue, putT, put, nth, forgetL, und, sizeOf, bor, binInt, shiftB, intOp, getO, moved, fieldAddr, List.getElem?_cons_succ, List.getElem?_cons_zero, int_beq, Int.reduceEq, decide_true, decide_false, Nat.zero_add, Nat.add_zero, beq_self_eq_true, c3]
      rw [opv_rd (orow_pt r1 hv.ok)]
      simp only [core1, tyr, execOp, opd, putT, put, nth, und, sizeOf, getO, moved, fieldAddr, List.getElem?_cons_succ, List.getElem?_cons_zero, Nat.reduceAdd, Nat.zero_add]
      rw [opv_rd (orow_made r1 hv.ok)]
      simp only [core1, hkr, execOp, opd, opds, putT, put, nth, doCall, callV_func, List.nil_append, List.append_nil]
      refine opv_callf f1 (f34k o.v.hash o.v.pn o.v.made hv.ok.h s1 hc9 f1) fun v2 h2 n2 hn2 f2 ⟨k2, hh⟩ => ?_
      have ho2 : ∀ j, K j → h2 j = h0 j := fun j hj => by rw [k2 j hj, ho1 j hj]
      rcases hh with ⟨_, e2, s2⟩ | ⟨w, hw, _, e2, s2⟩
      · subst e2
        simp only [core1, fgr, execOp, opd, ofValue, putT, put, nth, forgetL, bor, binInt, shiftB, intOp, wrapI, decide_true, w1]
        exact ih (i + 1) h2 n2 L _ _ _ _ _ _ _ (by omega) s2 hS1 f2 ho2
      · subst e2
        simp only [core1, fgr, execOp, opd, ofValue, putT, put, nth, forgetL, bor, binInt, shiftB, intOp, wrapI, decide_true, w1]
        exact ih (i + 1) h2 n2 _ _ _ _ _ _ _ _ (by omega) s2 ⟨by have := dropV_len hs.rL hw; have := hS.len; omega, fun u hu => hS.s u (dropV_sub hu)⟩ f2 ho2
    simp only [core1, fgr, execOp, opd, ofValue, putT, put, nth, forgetL, bor, binInt, shiftB, intOp, wrapI, int_beq, decide_true, decide_false, c0, c1, c2, c3, w1]
    exact ih (i + 1) H1 (n + 1) L _ _ _ _ _ _ _ (by omega) s1 hS1 f1 ho1
theorem f31 (a : AVal) (os : List OpI) (xs : List AVal) (h : Hp) (n : Nat) (ha : ArgOps a os xs) (hg : greatI os = false) (hf : Free h n) :
    Wp (callI env (evalW env) 31 [a]) h n fun v' h' n' => ∃ x L, v' = .ptr x 0 ∧ n ≤ x ∧ Ixk (fun j => j < n) h' n' x L ∧ Small L 80 ∧ Old h h' n := by
  obtain ⟨g1, g2⟩ := great_false hg
  have hr0 := ha.rd
  refine wp_callI ff31 fi31 ?_
  simp only [fu31, Try.f31, Option.getD_some, List.replicate, core1, fgr, hkr, execOp, opd, opds, ofValue, putT, put, forgetL, doCall, callV_func, ended, resultOf, oneOrTup, List.cons_append, List.nil_append, List.append_nil, List.length_cons, List.length_nil, Nat.reduceSub, Nat.zero_add, wp_pure]
  refine opv_callf hf (f40k h n hf) fun v1 h1 n1 hn1 f1 ⟨x, e1, hx, s1, o1⟩ => ?_
  subst e1
  simp only [core1, fgr, execOp, opd, opds, ofValue, putT, put, nth, forgetL, doCall, builtin, one1, (hr0 h1).bLen u65]
  refine loop31 _ _ a os xs (fun j => j < n) x h1 ha g1 g2 ?_ os.length 0 h1 n1 [] _ _ _ _ _ _ _ (by omega) s1 ⟨Nat.le_refl _, fun v hv => by cases hv⟩ f1 (fun j hj => rfl)
  intro h2 n2 L x5 x10 x14 x15 x21 x36 x46 s2 hS f2 ho
  simp only [core1, fgr, execOp, opd, putT, put, nth, forgetL, true_and]
  exact ⟨x, L, rfl, hx, s2, ⟨by have := hS.len; omega, hS.s⟩, fun j hj => by rw [ho j hj, o1 j hj]⟩
/- Versions that are ended at a height, plainly. -/
theorem eqVr_refl (v : Ver) : eqVr v v = true := by
  unfold eqVr
  simp [show cmpP v.hash v.pn v.hash v.pn = 0 from ordQ.refl v]
theorem eqL_refl : ∀ l : List Ver, eqL l l = true
  | [] => rfl
  | v :: l => by simp only [eqL, eqVr_refl, eqL_refl l, Bool.and_self]
theorem setV_map {L : List Ver} (r : Rises false L) {w : Ver} (hw : w ∈ L) (v : Ver) : setV L w v = L.map fun u => if cmpV u w = 0 then v else u := by
  obtain ⟨hp, hpw⟩ := pos_at r (pos_pos r w) hw
  unfold setV
  refine List.ext_getElem (by simp) fun i h1 h2 => ?_
  rw [List.getElem_set, List.getElem_map]
  have hi : i < L.length := by simpa using h1
  by_cases c : pos false L w = i
  · subst c
    rw [if_pos rfl, if_pos (by rw [hpw]; exact ordV.refl w)]
  · rw [if_neg c, if_neg fun q => ?_]
    have := rises_eq r (List.getElem_mem hi) hw q
    rcases Nat.lt_trichotomy (pos false L w) i with d | d | d
    · have q2 := r.at_ hp hi d
      rw [hpw, this] at q2
      have := ordV.refl w
      have : cmpV w w < 0 := q2
      omega
    · exact c d
    · have q2 := r.at_ hi hp d
      rw [hpw, this] at q2
      have := ordV.refl w
      have : cmpV w w < 0 := q2
      omega
/-! Lists of versions -/
theorem VL.keep {h h' : Hp} {a b : Nat} {v : AVal} {vs : List Ver} (l : VL h a b v vs) (hk : ∀ j, a ≤ j → j < b → h' j = h j) : VL h' a b v vs := by
  obtain ⟨cells, c1, c2, c3⟩ := l
  exact ⟨cells, c1.keep fun j q => hk j (c3 j q).1 (c3 j q).2, c2.mono (fun j q => q) (fun j q => hk j q.1 q.2.1), c3⟩
theorem VL.old {h h' : Hp} {a b n : Nat} {v : AVal} {vs : List Ver} (l : VL h a b v vs) (hn : b ≤ n) (hk : Old h h' n) : VL h' a b v vs := l.keep fun j _ q => hk j (by omega)
theorem lists_wp {h : Hp} {n a b c d : Nat} {v w : AVal} {vs ws : List Ver} (lv : VL h a b v vs) (lw : VL h c d w ws) (hb : b ≤ n) (hd : d ≤ n) (hc : vs.length ≤ 10000000) (hf : Free h n) :
    Wp (callI env (evalW env) 35 [v, w]) h n fun v' h' n' => v' = .bool (eqL vs ws) ∧ Old h h' n := by
  obtain ⟨cv, v1, v2, v3⟩ := lv
  obtain ⟨cw, w1, w2, w3⟩ := lw
  exact f35 v w vs ws cv cw (fun j => j < n) h n hc v1.rds w1.rds (v2.mono (fun j q => by have := q.2.1; omega) (fun j q => rfl)) (w2.mono (fun j q => by have := q.2.1; omega) (fun j q => rfl)) (fun j q => by have := v3 j q; omega) (fun j q => by have := w3 j q; omega) (fun j q => q) hf
/-- One of a list, in memory. -/
structure VAt (h : Hp) (a b : Nat) (v : AVal) (k : Nat) (w : Ver) (sw : AVal) : Prop where
  ok : w.Ok
  all : ∀ n, Rd (load env 31 (addrOf k v)) h n (rid v) (.agg (vcells w sw))
  pt : ∀ n, Rd (load env 28 (addrOf k v)) h n (rid v) (.agg (pcells w.hash w.pn))
  made : ∀ n, Rd (load env 3 (addrOf (k + 33) v)) h n (rid v) (.int .i64 w.made)
  spent : ∀ n, Rd (load env 3 (addrOf (k + 37) v)) h n (rid v) (.int .i64 w.spent)
  script : ∀ n, Rd (load env 29 (addrOf (k + 35) v)) h n (rid v) sw
  mv : ∀ k m, moved m (addrOf k v) = M.pure (addrOf (k + m) v)
  s : Bytes h sw w.script
  sn : ∀ j, ownId sw = some j → a ≤ j ∧ j < b
theorem VL.at_ {h : Hp} {a b : Nat} {v : AVal} {vs : List Ver} (l : VL h a b v vs) {i : Nat} (hi : i < vs.length) : ∃ sw, VAt h a b v (i * 70) vs[i] sw := by
  obtain ⟨cells, c1, c2, c3⟩ := l
  obtain ⟨sw, e, bs, o, d⟩ := c2.at_ i hi
  have hr := c1.rds
  have hl : i * 70 + 70 ≤ cells.length := by rw [c2.len]; omega
  have one : ∀ k x, k < 70 → (vcells vs[i] sw)[k]? = some x → cells[i * 70 + k]? = some x := fun k x hk hx => by rw [piece e hk, hx]
  refine ⟨sw, o, fun n => ?_, fun n => ?_, fun n => hr.load ti3 rfl (one 33 _ (by omega) (vcells_t o.h 0)), fun n => hr.load ti3 rfl (one 37 _ (by omega) (vcells_t o.h 4)), fun n => hr.load ti29 rfl (one 35 _ (by omega) (vcells_t o.h 2)), fun k m => moved_adr hr (by omega) k m, bs, fun j q => ⟨(d j q).1, (d j q).2.1⟩⟩
  · have := hr.agg (E := env) (n := n) (k := i * 70) ti31 rfl (by decide) hl
    have e' : (cells.drop (i * 70)).take 70 = vcells vs[i] sw := e
    exact e' ▸ this
  · have := hr.agg (E := env) (n := n) (k := i * 70) ti28 rfl (by decide) (by show i * 70 + 33 ≤ _; omega)
    have e' : (cells.drop (i * 70)).take 33 = pcells vs[i].hash vs[i].pn := by
      rw [← vcells_p (sv := sw) o.h, ← e, List.take_take]; rfl
    exact e' ▸ this
theorem VL.len {h : Hp} {a b : Nat} {v : AVal} {vs : List Ver} (l : VL h a b v vs) {ts : List TypeId} : bLen env (43 :: ts) v = M.pure (.int .i64 (vs.length : Nat)) := by
  obtain ⟨cells, c1, c2, c3⟩ := l
  exact c1.rds.bLen u43
theorem VL.idx {h : Hp} {a b : Nat} {v : AVal} {vs : List Ver} (l : VL h a b v vs) {i : Nat} (hi : i < vs.length) {h' : Hp} {n' : Nat} : Rd (indexAddr env 43 v (.int .i64 ((i : Nat) : Int))) h' n' [] (addrOf (i * 70) v) := by
  obtain ⟨cells, c1, c2, c3⟩ := l
  exact c1.rds.idx u43 z31s rfl hi
/- IndexLater's rounds. -/
def b1 : List UInt8 := 1 :: List.replicate 31 0
/- IndexUndone. -/
theorem neq25 (a b : List UInt8) (ha : a.length = 32) (hb : b.length = 32) : binOp env .neq 25 (.agg (a.map u8)) (.agg (b.map u8)) = M.pure (.bool (!decide (a = b))) := by
  have e := eq25 98 a b ha hb
  show binOther env .neq 25 (.agg (a.map u8)) (.agg (b.map u8)) = _
  unfold binOther
  simp only
  unfold equalTop
  rw [e, bind_pure]
theorem setV_in {L : List Ver} (r : Rises false L) {w : Ver} (hw : w ∈ L) (v : Ver) : v ∈ setV L w v := by
  rw [setV_map r hw]
  exact List.mem_map.2 ⟨w, hw, if_pos (ordV.refl w)⟩
theorem end_back {L : List Ver} (r : Rises false L) {w : Ver} (hw : w ∈ L) (h0 : w.spent = 0) (hb : w.by_ = z32) {s : Int} {b : List UInt8} (r1 : Rises false (setV L w (endV w s b))) :
    setV (setV L w (endV w s b)) (endV w s b) (endV (endV w s b) 0 z32) = L := by
  rw [setV_map r1 (setV_in r hw _), setV_map r hw, List.map_map]
  have : ∀ u ∈ L, ((fun u => if cmpV u (endV w s b) = 0 then endV (endV w s b) 0 z32 else u) ∘ fun u => if cmpV u w = 0 then endV w s b else u) u = u := fun u hu => by
    rw [Function.comp]
    by_cases c : cmpV u w = 0
    · have := rises_eq r hu hw c
      subst this
      rw [if_pos c, if_pos (ordV.refl _)]
      cases u
      simp only [endV] at *
      rw [h0, hb]
    · rw [if_neg c]
      have : cmpV u (endV w s b) = cmpV u w := rfl
      rw [this, if_neg c]
  exact (List.map_congr_left this).trans (List.map_id' L)
theorem same_cmp {w a : Ver} (h : same w.hash w.pn a = true) (hm : a.made = w.made) : cmpV a w = 0 := by
  have h1 := same_iff.1 h
  show orI (cmpP a.hash a.pn w.hash w.pn) (cmpI a.made w.made) = 0
  rw [h1, hm]
  exact cmpI_eq.2 rfl
theorem atV_mem {L : List Ver} {hash : List UInt8} {pn z : Int} {a : Ver} (h : atV L hash pn z = some a) : a ∈ L ∧ same hash pn a = true ∧ there a z = true := by
  have := List.mem_filter.1 (List.mem_of_getLast? h)
  simp only [Bool.and_eq_true] at this
  exact this
theorem loop4_0 (Q : Post0) (ks : List Kf) (v : AVal) (x n3 n4 : Nat) (z : Int) (L : List Ver) (nv : Ver) (nsv : AVal) (nok : nv.Ok) (K : Nat → Prop) (hK : ∀ j, n3 ≤ j → j < n4 → K j) (hK0 : K 0) (rL : Rises false L) (hz : 0 ≤ z ∧ z ≤ 255) (hl : L.length ≤ 1000)
    (hT : ∀ (h : Hp) (n : Nat) (x0 x1 x11 x12 x13 x14 x27 x36 x50 x54 x70 x98 x123 : AVal), Ixk K h n x L → VL h n3 n4 v L → n4 ≤ n → Free h n →
      Kont env 4 none Q ks (.exit 0) (x0 :: x1 :: .int .u8 z :: AVal.junk :: .ptr 0 0 :: AVal.junk :: .bool false :: .bool true :: .ptr x 0 :: v :: AVal.junk :: x11 :: x12 :: x13 :: x14 :: AVal.junk :: AVal.junk :: AVal.junk :: AVal.junk :: AVal.junk :: AVal.junk :: AVal.junk :: AVal.junk :: AVal.junk :: AVal.junk :: AVal.junk :: AVal.junk :: x27 :: AVal.junk :: AVal.junk :: AVal.junk :: AVal.junk :: AVal.junk :: AVal.junk :: AVal.junk :: AVal.junk :: x36 :: AVal.junk :: AVal.junk :: AVal.junk :: AVal.junk :: AVal.junk :: AVal.junk :: AVal.junk :: AVal.junk :: AVal.junk :: AVal.junk :: AVal.junk :: AVal.junk :: AVal.junk :: x50 :: v :: .int .i64 (L.length : Nat) :: .int .i64 (L.length : Nat) :: x54 :: AVal.junk :: AVal.junk :: AVal.junk :: AVal.junk :: AVal.junk :: AVal.junk :: AVal.junk :: AVal.junk :: AVal.junk :: AVal.junk :: AVal.junk :: AVal.junk :: AVal.junk :: AVal.junk :: AVal.junk :: x70 :: AVal.junk :: AVal.junk :: AVal.junk :: AVal.junk :: AVal.junk :: AVal.junk :: AVal.junk :: AVal.junk :: AVal.junk :: AVal.junk :: AVal.junk :: AVal.junk :: AVal.junk :: AVal.junk :: AVal.junk :: AVal.junk :: AVal.junk :: AVal.junk :: AVal.junk :: AVal.junk :: AVal.junk :: AVal.junk :: AVal.junk :: AVal.junk :: AVal.junk :: AVal.junk :: AVal.junk :: x98 :: AVal.junk :: AVal.junk :: AVal.junk :: AVal.junk :: AVal.junk :: AVal.junk :: AVal.junk :: AVal.junk :: AVal.junk :: AVal.junk :: AVal.junk :: AVal.junk :: AVal.junk :: AVal.junk :: AVal.junk :: AVal.junk :: AVal.junk :: AVal.junk :: AVal.junk :: AVal.junk :: AVal.junk :: AVal.junk :: AVal.junk :: AVal.junk :: x123 :: AVal.junk :: AVal.junk :: AVal.junk :: AVal.junk :: AVal.junk :: AVal.junk :: AVal.junk :: AVal.junk :: []) h n) :
    ∀ (m i : Nat) (h : Hp) (n : Nat) (x0 x1 x11 x12 x13 x14 x27 x36 x50 x54 x70 x98 x123 : AVal), i + m = L.length → Ixk K h n x L → VL h n3 n4 v L → Row h 0 (vcells nv nsv) → n4 ≤ n → Free h n →
      Run env 4 none Q (.loop lp4_0) ks (x0 :: x1 :: .int .u8 z :: AVal.junk :: .ptr 0 0 :: AVal.junk :: .bool false :: .bool true :: .ptr x 0 :: v :: AVal.junk :: x11 :: x12 :: x13 :: x14 :: AVal.junk :: AVal.junk :: AVal.junk :: AVal.junk :: AVal.junk :: AVal.junk :: AVal.junk :: AVal.junk :: AVal.junk :: AVal.junk :: AVal.junk :: AVal.junk :: x27 :: AVal.junk :: AVal.junk :: AVal.junk :: AVal.junk :: AVal.junk :: AVal.junk :: AVal.junk :: AVal.junk :: x36 :: AVal.junk :: AVal.junk :: AVal.junk :: AVal.junk :: AVal.junk :: AVal.junk :: AVal.junk :: AVal.junk :: AVal.junk :: AVal.junk :: AVal.junk :: AVal.junk :: AVal.junk :: x50 :: v :: .int .i64 (L.length : Nat) :: .int .i64 (i : Nat) :: x54 :: AVal.junk :: AVal.junk :: AVal.junk :: AVal.junk :: AVal.junk :: AVal.junk :: AVal.junk :: AVal.junk :: AVal.junk :: AVal.junk :: AVal.junk :: AVal.junk :: AVal.junk :: AVal.junk :: AVal.junk :: x70 :: AVal.junk :: AVal.junk :: AVal.junk :: AVal.junk :: AVal.junk :: AVal.junk :: AVal.junk :: AVal.junk :: AVal.junk :: AVal.junk :: AVal.junk :: AVal.junk :: AVal.junk :: AVal.junk :: AVal.junk :: AVal.junk :: AVal.junk :: AVal.junk :: AVal.junk :: AVal.junk :: AVal.junk :: AVal.junk :: AVal.junk :: AVal.junk :: AVal.junk :: AVal.junk :: AVal.junk :: x98 :: AVal.junk :: AVal.junk :: AVal.junk :: AVal.junk :: AVal.junk :: AVal.junk :: AVal.junk :: AVal.junk :: AVal.junk :: AVal.junk :: AVal.junk :: AVal.junk :: AVal.junk :: AVal.junk :: AVal.junk :: AVal.junk :: AVal.junk :: AVal.junk :: AVal.junk :: AVal.junk :: AVal.junk :: AVal.junk :: AVal.junk :: AVal.junk :: x123 :: AVal.junk :: AVal.junk :: AVal.junk :: AVal.junk :: AVal.junk :: AVal.junk :: AVal.junk :: AVal.junk :: []) h n := by
  intro m
  induction m with
  | zero =>
    intro i h n x0 x1 x11 x12 x13 x14 x27 x36 x50 x54 x70 x98 x123 hm hs hv hr hn hf
    have : i = L.length := by omega
    subst this
    rw [run_loop]
    have hcc : ¬ (((L.length : Nat) : Int) < ((L.length : Nat) : Int)) := by omega
    simp only [lp4_0, loopsOf, Try.f4, Option.getD_some, core1, fgr, execOp, opd, putT, put, nth, forgetL, bor, binInt, shiftB, intOp, List.append_eq, List.cons_append, List.nil_append, List.append_nil, decide_true, decide_false, List.getD_cons_zero, hcc]
    exact hT h n _ _ _ _ _ _ _ _ _ _ _ _ _ hs hv hn hf
  | succ m ih =>
    intro i h n x0 x1 x11 x12 x13 x14 x27 x36 x50 x54 x70 x98 x123 hm hs hv hr hn hf
    have hil : i < L.length := by omega
    have hcc : (((i : Nat) : Int) < ((L.length : Nat) : Int)) := by omega
    have w1 : IntKind.i64.wrap (((i : Nat) : Int) + 1) = ((i + 1 : Nat) : Int) := by rw [w64 (by omega) (by omega)]; omega
    have wz : IntKind.i64.wrap z = z := w64 (by omega) (by omega)
    obtain ⟨sw, va⟩ := hv.at_ hil
    have hw : L[i] ∈ L := List.getElem_mem hil
    have gw := hs.g _ hw
    generalize L[i] = w at *
    have kd := va.s.kind
    rw [run_loop]
    simp only [lp4_0, loopsOf, Try.f4, Option.getD_some, core1, fgr, execOp, opd, putT, put, nth, forgetL, bor, binInt, shiftB, intOp, List.append_eq, List.cons_append, List.nil_append, List.append_nil, decide_true, List.getD_cons_zero, hcc]
    rw [opv_rd (hv.idx hil)]
    simp only [core1, execOp, opd, putT, put, nth]
    rw [opv_rd (va.all n)]
    simp only [core1, execOp, putT, put]
    rw [opv_alloc ti31 rfl]
    simp only [core1, execOp, opd, putT, put, nth, cel]
    refine opv_hold (v := .agg (vcells w sw)) ti31 rfl (vcells_len va.ok.h va.ok.b) (vcells_cell kd.2.1) hf fun H1 r1 p1 f1 => ?_
    have n0 : 0 < n := hs.k hK0
    have s1 := hs.grow (n' := n + 1) (by omega) (fun j hj => p1 j (by omega))
    have v1 := hv.old hn (fun j hj => p1 j (by omega))
    have q1 := hr.keep (p1 0 (by omega))
    have b25' : build env 25 [] = M.pure (.agg (z32.map u8)) := rfl
    simp only [core1, tyr, fgr, execOp, opd, putT, put, nth, forgetL, und, sizeOf, getO, moved, fieldAddr, List.getElem?_cons_succ, List.getElem?_cons_zero, Nat.zero_add]
    rw [opv_rd (row_spent r1 va.ok)]
    by_cases c0 : w.spent = 0
    rotate_left
    · simp only [core1, fgr, execOp, opd, ofValue, putT, put, nth, forgetL, binInt, shiftB, intOp, wrapI, doPick, branch, List.getElem?_cons_succ, List.getElem?_cons_zero, int_bne, not_false_eq_true, decide_true, bo_int, c0]
      simp only [w1]
      exact ih (i + 1) H1 (n + 1) _ _ _ _ _ _ _ _ _ _ _ _ _ (by omega) (s1.sub fun j q => .inl q) v1 q1 (by omega) f1
    simp only [core1, tyr, execOp, opd, ofValue, putT, put, nth, und, sizeOf, binInt, shiftB, intOp, getO, moved, fieldAddr, List.getElem?_cons_succ, List.getElem?_cons_zero, decide_true, Nat.zero_add, bne_self_eq_false, bo_int, c0]
    rw [opv_rd (row_by r1 va.ok)]
    simp only [core1, execOp, opd, ofValue, ops2, putT, put, nth, doPick, branch, List.getElem?_cons_succ, List.getElem?_cons_zero, b25', neq25 w.by_ z32 va.ok.b rfl]
    by_cases c1 : w.by_ = z32
    rotate_left
    · simp only [core1, fgr, execOp, opd, ofValue, putT, put, nth, forgetL, bor, binInt, shiftB, intOp, wrapI, doPick, branch, List.getElem?_cons_succ, List.getElem?_cons_zero, decide_true, decide_false, Bool.not_false, c1, w1]
      exact ih (i + 1) H1 (n + 1) _ _ _ _ _ _ _ _ _ _ _ _ _ (by omega) (s1.sub fun j q => .inl q) v1 q1 (by omega) f1
    simp only [core1, tyr, execOp, opd, putT, put, nth, und, sizeOf, getO, moved, fieldAddr, List.getElem?_cons_succ, List.getElem?_cons_zero, decide_true, Bool.not_true, Nat.zero_add, c1]
    rw [opv_rd (row_made r1 va.ok)]
    by_cases c2 : 1099511627776 < w.made
    · simp only [core1, fgr, execOp, opd, ofValue, putT, put, nth, forgetL, bor, binInt, shiftB, intOp, wrapI, doPick, branch, List.getElem?_cons_succ, List.getElem?_cons_zero, gt_iff_lt, decide_true, c2, w1]
      exact ih (i + 1) H1 (n + 1) _ _ _ _ _ _ _ _ _ _ _ _ _ (by omega) (s1.sub fun j q => .inl q) v1 q1 (by omega) f1
    simp only [core1, tyr, fgr, execOp, opd, ofValue, putT, put, nth, forgetL, und, sizeOf, bor, binInt, shiftB, intOp, doPick, branch, getO, moved, fieldAddr, List.getElem?_cons_succ, List.getElem?_cons_zero, gt_iff_lt, decide_true, decide_false, Nat.zero_add, c2]
    rw [opv_rd (row_made r1 va.ok)]
    simp only [core1, tyr, fgr, execOp, opd, opds, ofValue, putT, put, nth, forgetL, doCall, builtin, some1, foldM2, max2, und, sizeOf, lenOf, bor, binInt, shiftB, intOp, wrapI, strK, intK, getO, moved, fieldAddr, List.getElem?_cons_zero, decide_true, Nat.zero_add, convert, convStr, isU8, wz]
    obtain ⟨t, ht⟩ : ∃ t, t = (if 1 < w.made then w.made else 1) + z := ⟨_, rfl⟩
    have ht1 : 1 ≤ t ∧ w.made ≤ t ∧ t ≤ 1099511628031 := by
      rw [ht]
      split <;> omega
    have wt : IntKind.i64.wrap t = t := w64 (by omega) (by omega)
    rw [← ht, wt]
    clear ht
    rw [opv_rd (row_pt r1 va.ok)]
    simp only [core1, tyr, execOp, opd, putT, put, nth, und, sizeOf, getO, moved, fieldAddr, List.getElem?_cons_succ, List.getElem?_cons_zero, Nat.zero_add]
    rw [opv_rd (row_made r1 va.ok)]
    simp only [core1, tyr, execOp, opd, putT, put, nth, und, sizeOf, getO, moved, fieldAddr, List.getElem?_cons_succ, List.getElem?_cons_zero, Nat.zero_add]
    rw [opv_rd (row_by q1 nok)]
    simp only [core1, hkr, execOp, opd, opds, putT, put, nth, doCall, callV_func, List.nil_append, List.append_nil]
    refine opv_callf f1 (f36k w.hash w.pn w.made t nv.by_ va.ok.h nok.b s1 (by omega) f1) fun v2 h2 n2 hn2 f2 ⟨k2, hh⟩ => ?_
    rcases hh with ⟨q, _⟩ | ⟨u, hu, q, _, _, _, e2, s2⟩
    · exfalso
      rcases q w hw (key_cmp w) with q | q | q
      · exact q c0
      · omega
      · omega
    subst e2
    have eu : u = w := rises_eq rL hu hw (by have := ordV.eqr (d := u) (key_cmp w); show cmpV u w = 0; omega)
    subst eu
    have uin := setV_in rL hw (endV u t nv.by_)
    have uniq : ∀ a ∈ setV L u (endV u t nv.by_), cmpV a (key u.hash u.pn u.made) = 0 → a = endV u t nv.by_ := fun a ha hc => rises_eq s2.rL ha uin (by
      have := ordV.eqr (d := a) (key_cmp u)
      have e : cmpV a (endV u t nv.by_) = cmpV a u := rfl
      show cmpV a (endV u t nv.by_) = 0
      omega)
    have v2 := v1.keep fun j a b => k2 j (.inl (hK j a b))
    have r2 := r1.keep (k2 n (.inr (by omega)))
    have q2 := q1.keep (k2 0 (.inl hK0))
    simp only [core1, tyr, execOp, opd, ofValue, putT, put, nth, und, sizeOf, bor, binInt, shiftB, intOp, getO, moved, fieldAddr, List.getElem?_cons_succ, List.getElem?_cons_zero, decide_true, Nat.zero_add, bne_self_eq_false]
    rw [opv_rd (row_pt r2 va.ok)]
    simp only [core1, tyr, execOp, opd, putT, put, nth, und, sizeOf, getO, moved, fieldAddr, List.getElem?_cons_succ, List.getElem?_cons_zero, Nat.zero_add]
    rw [opv_rd (row_made r2 va.ok)]
    simp only [core1, tyr, execOp, opd, putT, put, nth, und, sizeOf, getO, moved, fieldAddr, List.getElem?_cons_succ, List.getElem?_cons_zero, Nat.zero_add]
    rw [opv_rd (row_by q2 nok)]
    simp only [core1, hkr, execOp, opd, opds, putT, put, nth, doCall, callV_func, List.getElem?_cons_succ, List.getElem?_cons_zero, List.nil_append, List.append_nil]
    refine opv_callf f2 (f36k u.hash u.pn u.made t nv.by_ va.ok.h nok.b s2 (by rw [setV_len]; omega) f2) fun v3 h3 n3' hn3 f3 ⟨k3, hh⟩ => ?_
    rcases hh with ⟨_, e3, s3⟩ | ⟨a, ha, hc, h0, _⟩
    rotate_left
    · exfalso
      rw [uniq a ha hc] at h0
      have : t = 0 := h0
      omega
    subst e3
    have v3 := v2.keep fun j a b => k3 j (.inl (hK j a b))
    have r3 := r2.keep (k3 n (.inr (by omega)))
    have q3 := q2.keep (k3 0 (.inl hK0))
    simp only [core1, tyr, fgr, execOp, opd, ofValue, putT, put, nth, forgetL, und, sizeOf, bor, binInt, shiftB, intOp, doPick, branch, getO, moved, fieldAddr, List.getElem?_cons_succ, List.getElem?_cons_zero, decide_true, Nat.zero_add, bne_self_eq_false]
    rw [opv_rd (row_pt r3 va.ok)]
    simp only [core1, hkr, execOp, opd, opds, putT, put, nth, doCall, callV_func, List.nil_append, List.append_nil]
    refine opv_callf f3 (f37k u.hash u.pn t va.ok.h s3 (by rw [setV_len]; omega) f3) fun v4 h4 n4' hn4 f4 ⟨o4, sA, e4, okA, bA, iA⟩ => ?_
    subst e4
    have s4 := s3.old hn4 o4
    have v4 := v3.old (by omega) o4
    have r4 := r3.keep (o4 n (by omega))
    have q4 := q3.keep (o4 0 (by omega))
    have nat : (atV (setV L u (endV u t nv.by_)) u.hash u.pn t).isSome = true → ((atV (setV L u (endV u t nv.by_)) u.hash u.pn t).getD noV).made ≠ u.made := fun hs hm => by
      cases ha : atV (setV L u (endV u t nv.by_)) u.hash u.pn t with
      | none => rw [ha] at hs; cases hs
      | some a =>
        rw [ha] at hm
        obtain ⟨m1, m2, m3⟩ := atV_mem ha
        have hc := same_cmp m2 hm
        have := uniq a m1 (by have := ordV.eqr (d := a) (key_cmp u); omega)
        rw [this] at m3
        unfold there endV at m3
        simp only [Bool.and_eq_true, Bool.or_eq_true, decide_eq_true_eq] at m3
        omega
    generalize atV (setV L u (endV u t nv.by_)) u.hash u.pn t = oa at *
    simp only [core1, execOp, opd, putT, put, nth, extract, getO, List.getElem?_cons_succ, List.getElem?_cons_zero]
    rw [opv_alloc ti31 rfl]
    simp only [core1, execOp, opd, putT, put, nth, cel]
    refine opv_hold (v := .agg (vcells (oa.getD noV) sA)) ti31 rfl (vcells_len okA.h okA.b) (vcells_cell bA.kind.2.1) f4 fun H5 rA p5 f5 => ?_
    have s5 := s4.old (n' := n4' + 1) (by omega) (fun j hj => p5 j (by omega))
    have v5 := v4.old (n := n4') (by omega) (fun j hj => p5 j (by omega))
    have r5 := r4.keep (p5 n (by omega))
    have q5 := q4.keep (p5 0 (by omega))
    have back : ∀ (Q' : Post0) (ks' : List Kf), True := fun _ _ => trivial
    simp only [core1, fgr, execOp, opd, putT, put, nth, forgetL, List.getElem?_cons_succ, List.getElem?_cons_zero]
    have fin : ∀ (P : AVal → Hp → Nat → Prop), (∀ h6 n6, n4' + 1 ≤ n6 → Ixk K h6 n6 x L → VL h6 n3 n4 v L → Row h6 0 (vcells nv nsv) → Free h6 n6 → P (.int .i64 0) h6 n6) → Wp (callI env (evalW env) 38 [.ptr x 0, .agg (pcells u.hash u.pn), .int .i64 u.made]) H5 (n4' + 1) P := fun P hP => by
      refine wp_mono ((f38k u.hash u.pn u.made va.ok.h s5 (by rw [setV_len]; omega) f5).free f5) fun v6 h6 n6 ⟨⟨k6, hh⟩, hn6, f6⟩ => ?_
      rcases hh with ⟨q, _⟩ | ⟨a, ha, hc, _, e6, s6⟩
      · exfalso
        have : t = 0 := q _ uin (key_cmp u)
        omega
      subst e6
      rw [uniq a ha hc, end_back rL hw c0 c1 s2.rL] at s6
      exact hP h6 n6 hn6 (s6.sub fun j q => .inl q) (v5.keep fun j a b => k6 j (.inl (hK j a b))) (q5.keep (k6 0 (.inl hK0))) f6
    cases hos : oa.isSome with
    | false =>
      simp only [core1, tyr, execOp, opd, ofValue, putT, put, nth, und, sizeOf, doPick, branch, getO, moved, fieldAddr, List.getElem?_cons_succ, List.getElem?_cons_zero, Nat.zero_add]
      rw [opv_rd (row_pt r5 va.ok)]
      simp only [core1, tyr, execOp, opd, putT, put, nth, und, sizeOf, getO, moved, fieldAddr, List.getElem?_cons_succ, List.getElem?_cons_zero, Nat.zero_add]
      rw [opv_rd (row_made r5 va.ok)]
      simp only [core1, hkr, execOp, opd, opds, putT, put, nth, doCall, callV_func, List.getElem?_cons_succ, List.getElem?_cons_zero, List.nil_append, List.append_nil]
      refine opv_call (fin (fun v' h' n' => v' = .int .i64 0 ∧ n4' + 1 ≤ n' ∧ Ixk K h' n' x L ∧ VL h' n3 n4 v L ∧ Row h' 0 (vcells nv nsv) ∧ Free h' n') fun h6 n6 a b c d e => ⟨rfl, a, b, c, d, e⟩) fun v6 h6 n6 _ ⟨e6, a6, s6, v6', q6, f6⟩ => ?_
      subst e6
      simp only [core1, fgr, execOp, opd, ofValue, putT, put, nth, forgetL, bor, binInt, shiftB, intOp, wrapI, doPick, branch, List.getElem?_cons_succ, List.getElem?_cons_zero, decide_true, bne_self_eq_false, w1]
      exact ih (i + 1) h6 n6 _ _ _ _ _ _ _ _ _ _ _ _ _ (by omega) s6 v6' q6 (by omega) f6
    | true =>
      have hne := nat hos
      simp only [core1, tyr, execOp, opd, putT, put, nth, und, sizeOf, getO, moved, fieldAddr, List.getElem?_cons_succ, List.getElem?_cons_zero, Nat.zero_add]
      rw [opv_rd (row_made rA okA)]
      simp only [core1, tyr, execOp, opd, putT, put, nth, und, sizeOf, getO, moved, fieldAddr, List.getElem?_cons_succ, List.getElem?_cons_zero, Nat.zero_add]
      rw [opv_rd (row_made r5 va.ok)]
      simp only [core1, tyr, execOp, opd, ofValue, putT, put, nth, und, sizeOf, bor, binInt, shiftB, intOp, doPick, branch, getO, moved, fieldAddr, List.getElem?_cons_succ, List.getElem?_cons_zero, int_beq, decide_true, decide_false, Nat.zero_add, hne]
      rw [opv_rd (row_pt r5 va.ok)]
      simp only [core1, tyr, execOp, opd, putT, put, nth, und, sizeOf, getO, moved, fieldAddr, List.getElem?_cons_succ, List.getElem?_cons_zero, Nat.zero_add]
      rw [opv_rd (row_made r5 va.ok)]
      simp only [core1, hkr, execOp, opd, opds, putT, put, nth, doCall, callV_func, List.getElem?_cons_succ, List.getElem?_cons_zero, List.nil_append, List.append_nil]
      refine opv_call (fin (fun v' h' n' => v' = .int .i64 0 ∧ n4' + 1 ≤ n' ∧ Ixk K h' n' x L ∧ VL h' n3 n4 v L ∧ Row h' 0 (vcells nv nsv) ∧ Free h' n') fun h6 n6 a b c d e => ⟨rfl, a, b, c, d, e⟩) fun v6 h6 n6 _ ⟨e6, a6, s6, v6', q6, f6⟩ => ?_
      subst e6
      simp only [core1, fgr, execOp, opd, ofValue, putT, put, nth, forgetL, bor, binInt, shiftB, intOp, wrapI, doPick, branch, List.getElem?_cons_succ, List.getElem?_cons_zero, decide_true, bne_self_eq_false, w1]
      exact ih (i + 1) h6 n6 _ _ _ _ _ _ _ _ _ _ _ _ _ (by omega) s6 v6' q6 (by omega) f6
theorem law4 (v0 : AVal) (hv0 : Arg Try.prog 65 [v0]) (v1 : List AVal) (hv1 : Arg Try.prog 31 v1) (a2 : Int) (w2 : (Lit.int .u8 a2).wf = true) :
    Wp (callI env (evalW env) 4 [v0, .agg v1, .int .u8 a2]) (fun _ => none) 0 fun v _ _ => v = .bool true := by
  obtain ⟨os, xs, ha⟩ := arg_ops hv0
  obtain ⟨v, sv, rfl, av⟩ := arg_ver hv1
  have hz : 0 ≤ a2 ∧ a2 ≤ 255 := by
    simp only [Lit.wf, Bool.and_eq_true, decide_eq_true_eq] at w2
    exact w2
  refine wp_callI ff4 fi4 ?_
  simp only [fu4, Try.f4, Option.getD_some, List.replicate, core1, execOp, opd, nth, ended, resultOf, oneOrTup, List.append_eq, List.cons_append, List.nil_append, List.length_cons, List.length_nil, Nat.reduceAdd, Nat.reduceSub, Nat.zero_add, wp_pure]
  refine opv_box (v := .agg (vcells v sv)) ti31 rfl Free.none fun H1 r1 o1 f1 => ?_
  replace r1 : Row H1 0 (vcells v sv) := r1
  simp only [core1, fgr, hkr, execOp, opd, opds, ofValue, putT, put, forgetL, doCall, callV_func, List.append_nil, Nat.zero_add]
  refine opv_callf f1 (f29 H1 _ f1) fun v2 h2 n2 hn2 f2 ⟨e2, o2⟩ => ?_
  subst e2
  have r2 := r1.keep (o2 0 (by omega))
  simp only [core1, fgr, hkr, execOp, opd, opds, putT, put, nth, forgetL, doCall, callV_func, List.nil_append, List.append_nil]
  refine opv_same (f30 v0 os xs h2 n2 ha) ?_
  cases hg : greatI os with
  | true =>
    simp only [core1, fgr, execOp, opd, ofValue, putT, put, nth, forgetL, doPick, branch, List.getElem?_cons_succ, List.getElem?_cons_zero, and_self]
  | false =>
  simp only [core1, tyr, execOp, opd, putT, put, nth, und, sizeOf, getO, moved, fieldAddr, List.getElem?_cons_succ, List.getElem?_cons_zero, Nat.zero_add]
  rw [opv_rd (row_script r2 av.ok)]
  simp only [core1, execOp, opd, opds, ofValue, putT, put, nth, doCall, builtin, one1, bor, binInt, shiftB, intOp, doPick, branch, List.getElem?_cons_succ, List.getElem?_cons_zero, gt_iff_lt, decide_true, (av.s.bytes h2).bLen t29]
  by_cases hov : 200 < v.script.length
  · have hc2 : 200 < ((v.script.length : Nat) : Int) := by omega
    simp only [core1, fgr, execOp, opd, ofValue, putT, put, nth, forgetL, doPick, branch, List.getElem?_cons_succ, List.getElem?_cons_zero, decide_true, and_self, hc2]
  have hc2 : ¬ 200 < ((v.script.length : Nat) : Int) := by omega
  simp only [core1, fgr, hkr, execOp, opd, opds, ofValue, putT, put, nth, forgetL, doCall, callV_func, unOp, doPick, branch, List.getElem?_cons_succ, List.getElem?_cons_zero, List.nil_append, List.append_nil, decide_false, Bool.not_true, hc2]
  refine opv_callf f2 (f31 v0 os xs h2 n2 ha hg f2) fun v3 h3 n3 hn3 f3 ⟨x, L, e3, hx, s3, S3, o3⟩ => ?_
  subst e3
  have r3 := r2.keep (o3 0 (by omega))
  have len3 : L.length ≤ 900000 := by have := S3.len; omega
  simp only [core1, fgr, hkr, execOp, opd, opds, putT, put, nth, forgetL, doCall, callV_func, List.nil_append, List.append_nil]
  refine opv_callf f3 (f32k s3 len3 f3) fun v4 h4 n4 hn4 f4 ⟨l4, o4⟩ => ?_
  have r4 := r3.keep (o4 0 (by omega))
  have s4 := s3.grow hn4 o4
  simp only [core1, fgr, execOp, opd, putT, put, nth, forgetL]
  rw [opv_rd (row_all r4 av.ok)]
  simp only [core1, hkr, execOp, opd, opds, putT, put, nth, doCall, callV_func, List.nil_append, List.append_nil]
  refine opv_callf f4 (f33k v sv av.ok av.pn (by omega) s4 (av.s.bytes _) (fun j q => by rw [argB_id av.s] at q; cases q) len3 f4) fun v6 h6 n6 hn6 f6 ⟨k6, hh⟩ => ?_
  have r6 := r4.keep (k6 0 (.inl (by omega)))
  have l6 := l4.keep fun j a b => k6 j (.inr ⟨a, b⟩)
  rcases hh with ⟨_, e6, s6⟩ | ⟨hne, e6, s6⟩
  · subst e6
    simp only [core1, fgr, execOp, opd, opds, ofValue, putT, put, nth, forgetL, doCall, builtin, one1, bor, binInt, shiftB, intOp, int_beq, Int.reduceEq, decide_true, decide_false, l6.len]
    refine loop4_0 _ _ v4 x n3 n4 a2 L v sv av.ok (fun j => j < n2 ∨ (n3 ≤ j ∧ j < n4)) (fun j a b => .inr ⟨a, b⟩) (.inl (by omega)) s3.rL hz (by have := S3.len; omega) ?_ L.length 0 h6 n6 _ _ _ _ _ _ _ _ _ _ _ _ _ (by omega) s6 l6 r6 (by omega) f6
    intro h9 n9 x0 x1 x11 x12 x13 x14 x27 x36 x50 x54 x70 x98 x123 s9 l9 k9 f9
    simp only [core1, hkr, execOp, opd, opds, putT, put, nth, doCall, callV_func, List.getElem?_cons_succ, List.getElem?_cons_zero, List.nil_append, List.append_nil]
    refine opv_callf f9 (f32k s9 len3 f9) fun v10 h10 n10 hn10 f10 ⟨l10, o10⟩ => ?_
    have l9' := l9.old (by omega) o10
    simp only [core1, hkr, execOp, opd, opds, putT, put, nth, doCall, callV_func, List.getElem?_cons_succ, List.getElem?_cons_zero, List.nil_append, List.append_nil]
    refine opv_callf f10 (lists_wp l10 l9' (Nat.le_refl _) (by omega) (by have := S3.len; omega) f10) fun v11 h11 n11 hn11 f11 ⟨e11, o11⟩ => ?_
    subst e11
    simp only [core1, fgr, execOp, opd, ofValue, putT, put, nth, forgetL, doPick, branch, and_self, eqL_refl]
  · subst e6
    simp only [core1, tyr, fgr, execOp, opd, ofValue, putT, put, nth, forgetL, und, sizeOf, bor, binInt, shiftB, intOp, getO, moved, fieldAddr, List.getElem?_cons_zero, decide_true, Nat.zero_add, beq_self_eq_true]
    rw [opv_rd (row_pt r6 av.ok)]
    simp only [core1, tyr, execOp, opd, putT, put, nth, und, sizeOf, getO, moved, fieldAddr, List.getElem?_cons_succ, List.getElem?_cons_zero, Nat.zero_add]
    rw [opv_rd (row_made r6 av.ok)]
    simp only [core1, hkr, execOp, opd, opds, putT, put, nth, doCall, callV_func, List.nil_append, List.append_nil]
    refine opv_callf f6 (f34k v.hash v.pn v.made av.ok.h s6 (by rw [putV_len]; have := S3.len; omega) f6) fun v7 h7 n7 hn7 f7 ⟨k7, hh⟩ => ?_
    have vin : v ∈ putV L v := putV_mem.2 (.inl rfl)
    rcases hh with ⟨q, _⟩ | ⟨w, hw, q, e7, s7⟩
    · exact absurd (key_cmp v) (q v vin)
    subst e7
    have ew : w = v := rises_eq s6.rL hw vin (by have := ordV.eqr (d := w) (key_cmp v); show cmpV w v = 0; omega)
    subst ew
    rw [drop_put] at s7
    have r7 := r6.keep (k7 0 (.inl (by omega)))
    have l7 := l6.keep fun j a b => k7 j (.inr ⟨a, b⟩)
    simp only [core1, hkr, execOp, opd, opds, ofValue, putT, put, nth, doCall, callV_func, bor, binInt, shiftB, intOp, List.getElem?_cons_succ, List.getElem?_cons_zero, List.nil_append, List.append_nil, decide_true, bne_self_eq_false]
    refine opv_callf f7 (f32k s7 len3 f7) fun v8 h8 n8 hn8 f8 ⟨l8, o8⟩ => ?_
    have s8 := s7.old hn8 o8
    have l8' := l7.old (by omega) o8
    have r8 := r7.keep (o8 0 (by omega))
    simp only [core1, hkr, execOp, opd, opds, putT, put, nth, doCall, callV_func, List.getElem?_cons_succ, List.getElem?_cons_zero, List.nil_append, List.append_nil]
    refine opv_callf f8 (lists_wp l8 l8' (Nat.le_refl _) (by omega) (by have := S3.len; omega) f8) fun v9 hA nA hnA fA ⟨eA, oA⟩ => ?_
    subst eA
    have sA := s8.old hnA oA
    have lA := l8'.old (by omega) oA
    have rA := r8.keep (oA 0 (by omega))
    simp only [core1, fgr, execOp, opd, opds, ofValue, putT, put, nth, forgetL, doCall, builtin, one1, unOp, doPick, branch, List.getElem?_cons_succ, List.getElem?_cons_zero, Bool.not_true, eqL_refl, lA.len]
    refine loop4_0 _ _ v4 x n3 n4 a2 L w sv av.ok (fun j => j < n2 ∨ (n3 ≤ j ∧ j < n4)) (fun j a b => .inr ⟨a, b⟩) (.inl (by omega)) s3.rL hz (by have := S3.len; omega) ?_ L.length 0 hA nA _ _ _ _ _ _ _ _ _ _ _ _ _ (by omega) sA lA rA (by omega) fA
    intro h9 n9 x0 x1 x11 x12 x13 x14 x27 x36 x50 x54 x70 x98 x123 s9 l9 k9 f9
    simp only [core1, hkr, execOp, opd, opds, putT, put, nth, doCall, callV_func, List.getElem?_cons_succ, List.getElem?_cons_zero, List.nil_append, List.append_nil]
    refine opv_callf f9 (f32k s9 len3 f9) fun v10 h10 n10 hn10 f10 ⟨l10, o10⟩ => ?_
    have l9' := l9.old (by omega) o10
    simp only [core1, hkr, execOp, opd, opds, putT, put, nth, doCall, callV_func, List.getElem?_cons_succ, List.getElem?_cons_zero, List.nil_append, List.append_nil]
    refine opv_callf f10 (lists_wp l10 l9' (Nat.le_refl _) (by omega) (by have := S3.len; omega) f10) fun v11 h11 n11 hn11 f11 ⟨e11, o11⟩ => ?_
    subst e11
    simp only [core1, fgr, execOp, opd, ofValue, putT, put, nth, forgetL, doPick, branch, and_self, eqL_refl]
end Go.Am.Ytlgebaofkolkoaa
