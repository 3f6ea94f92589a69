/- The functions that the statement reaches, gone through. -/
import Derived.Test.YtlgebaofkolkoaaIxScC
set_option linter.unusedSimpArgs false
set_option linter.unusedVariables false
set_option linter.defProp false
set_option maxRecDepth 10000
namespace Go.Am.Ytlgebaofkolkoaa
open Go Go.Am Go.Proofs
theorem f29 (h : Hp) (n : Nat) (hf : Free h n) : Wp (callI env (evalW env) 29 []) h n fun v' h' n' => v' = .bool true ∧ Old h h' n := by
  refine wp_callI ff29 fi29 ?_
  simp only [fu29, Try.f29, Option.getD_some, List.replicate, core1, fgr, hkr, execOp, opd, opds, ofValue, putT, put, forgetL, doCall, callV_func, ended, resultOf, oneOrTup, List.append_eq, List.cons_append, List.nil_append, List.append_nil, List.length_nil, Nat.reduceSub, wp_pure]
  refine opv_callf hf (f40k h n hf) fun v1 h1 n1 hn1 f1 ⟨x, e1, hx, s1, o1⟩ => ?_
  subst e1
  simp only [core1, tyr, execOp, opd, ofValue, ops2, putT, put, und, cel, getO, List.cons_append, List.nil_append, List.append_nil, List.length_cons, List.length_nil, Nat.beq, Bool.not_false, Bool.and_true, Bool.true_and, Nat.zero_add, Nat.zero_mul, buildSlice, reps, fill, List.take_zero, List.drop_succ_cons, List.drop_zero, Nat.ble, Nat.one_mul, List.length_cons, List.length_nil, Nat.zero_mul]
  refine opv_row ti5 f1 (f := fun id => AVal.sl id 0 1 (some 1) 1) fun H2 r2 o2 f2 => ?_
  have hb2 : Bytes H2 (.sl n1 0 1 (some 1) 1) [81] := Bytes.fresh (l := [81]) r2
  have s2 := s1.grow (n' := n1 + 1) (by omega) (fun j hj => o2 j (by omega))
  have old2 : Old h H2 n := fun j hj => by rw [o2 j (by omega), o1 j hj]
  have kd : AVal.cells (.sl n1 0 1 (some 1) 1) = [.sl n1 0 1 (some 1) 1] ∧ oneCell (.sl n1 0 1 (some 1) 1) = true ∧ isJunk (.sl n1 0 1 (some 1) 1) = false := ⟨rfl, rfl, rfl⟩
  have Kn : ∀ j, j < n ∨ j = n1 → (j < n ∨ (n1 ≤ j ∧ j < n1 + 1)) := fun j q => by omega
  replace s2 := s2.sub Kn
  simp only [core1, fgr, hkr, execOp, opd, opds, ofValue, ops2, putT, put, nth, forgetL, doCall, callV_func, List.nil_append, List.append_nil, build31m kd]
  refine opv_callf f2 (f33k (exv 3 0) _ ⟨rfl, rfl⟩ (by decide) (by decide) s2 hb2 (fun j q => by injection q with q; omega) (by decide) f2) fun v3 h3 n3 hn3 f3 ⟨k3, hh⟩ => ?_
  rcases hh with ⟨q, _⟩ | ⟨_, e3, s3⟩
  · exact absurd q ex1
  subst e3
  rw [ex2] at s3
  have hb3 := hb2.keep (h' := h3) fun j q => k3 j (by injection q with q; exact .inr q.symm)
  simp only [core1, hkr, execOp, opd, opds, ofValue, ops2, putT, put, nth, doCall, callV_func, List.nil_append, List.append_nil, build31m kd]
  refine opv_callf f3 (f33k (exv 3 0) _ ⟨rfl, rfl⟩ (by decide) (by decide) s3 hb3 (fun j q => by injection q with q; omega) (by decide) f3) fun v4 h4 n4 hn4 f4 ⟨k4, hh⟩ => ?_
  rcases hh with ⟨_, e4, s4⟩ | ⟨q, _⟩
  rotate_left
  · exact absurd ex3 q
  subst e4
  have hb4 := hb3.keep (h' := h4) fun j q => k4 j (by injection q with q; exact .inr q.symm)
  simp only [core1, hkr, execOp, opd, opds, ofValue, ops2, putT, put, nth, doCall, callV_func, List.nil_append, List.append_nil, build31v kd]
  refine opv_callf f4 (f33k (exv 5 7) _ ⟨rfl, rfl⟩ (by decide) (by decide) s4 hb4 (fun j q => by injection q with q; omega) (by decide) f4) fun v5 h5 n5 hn5 f5 ⟨k5, hh⟩ => ?_
  rcases hh with ⟨q, _⟩ | ⟨_, e5, s5⟩
  · exact absurd q ex4
  subst e5
  rw [ex5] at s5
  have hb5 := hb4.keep (h' := h5) fun j q => k5 j (by injection q with q; exact .inr q.symm)
  have old5 : Old h h5 n := fun j hj => by rw [k5 j (.inl hj), k4 j (.inl hj), k3 j (.inl hj), old2 j hj]
  simp only [core1, fgr, hkr, execOp, opd, opds, ofValue, ops2, putT, put, nth, forgetL, doCall, callV_func, List.nil_append, List.append_nil, build28z, build25_9]
  refine opv_callf f5 (f36k z0 0 3 4 b9 rfl rfl s5 (by decide) f5) fun v6 h6 n6 hn6 f6 ⟨k6, hh⟩ => ?_
  rcases hh with ⟨q, _⟩ | ⟨w, hw, q, _, _, _, e6, s6⟩
  · have := q (exv 3 0) List.mem_cons_self ex7
    rcases this with q | q | q
    · exact absurd rfl q
    · exact absurd q (by decide)
    · exact absurd q (by decide)
  subst e6
  have ew : w = exv 3 0 := by
    rcases List.mem_cons.1 hw with q' | q'
    · exact q'
    · rw [List.mem_singleton.1 q'] at q
      exact absurd q ex8
  subst ew
  rw [ex6] at s6
  have hb6 := hb5.keep (h' := h6) fun j q => k6 j (by injection q with q; exact .inr q.symm)
  have old6 : Old h h6 n := fun j hj => by rw [k6 j (.inl hj), old5 j hj]
  simp only [core1, fgr, hkr, execOp, opd, opds, ofValue, ops2, putT, put, nth, forgetL, doCall, callV_func, List.nil_append, List.append_nil, build28z]
  refine opv_callf f6 (f37k z0 0 3 rfl s6 (by decide) f6) fun v7 h7 n7 hn7 f7 ⟨o7, sA, e7, okA, bA, iA⟩ => ?_
  subst e7
  rw [ex9] at okA bA
  simp only [core1, execOp, opd, putT, put, nth, extract, getO, List.getElem?_cons_succ, List.getElem?_cons_zero, ex9, Option.getD_some, Option.isSome_some]
  rw [opv_alloc ti31 rfl]
  simp only [core1, execOp, opd, putT, put, nth, cel]
  refine opv_hold (v := .agg (vcells (endV (exv 3 0) 4 b9) sA)) ti31 rfl (vcells_len okA.h okA.b) (vcells_cell bA.kind.2.1) f7 fun H7 r7 p7 f7' => ?_
  simp only [core1, fgr, hkr, execOp, opd, opds, ofValue, ops2, putT, put, nth, forgetL, doCall, callV_func, List.nil_append, List.append_nil, build28z]
  have s7 := (s6.old hn7 o7).grow (n' := n7 + 1) (by omega) (fun j hj => p7 j (by omega))
  refine opv_callf f7' (f37k z0 0 4 rfl s7 (by decide) f7') fun v8 h8 n8 hn8 f8 ⟨o8, sB, e8, okB, bB, iB⟩ => ?_
  subst e8
  rw [ex10] at okB bB
  simp only [core1, execOp, opd, putT, put, nth, extract, getO, List.getElem?_cons_succ, List.getElem?_cons_zero, ex10, Option.getD_none, Option.isSome_none]
  rw [opv_alloc ti31 rfl]
  simp only [core1, execOp, opd, putT, put, nth, cel]
  refine opv_hold (v := .agg (vcells noV sB)) ti31 rfl (vcells_len okB.h okB.b) (vcells_cell bB.kind.2.1) f8 fun H8 r8 p8 f8' => ?_
  simp only [core1, fgr, hkr, execOp, opd, opds, ofValue, ops2, putT, put, nth, forgetL, doCall, callV_func, List.nil_append, List.append_nil, build28z]
  have s8 := (s7.old hn8 o8).old (n' := n8 + 1) (by omega) (fun j hj => p8 j (by omega))
  refine opv_callf f8' (f37k z0 0 5 rfl s8 (by decide) f8') fun v9 h9 n9 hn9 f9 ⟨o9, sC, e9, okC, bC, iC⟩ => ?_
  subst e9
  rw [ex11] at okC bC
  simp only [core1, execOp, opd, putT, put, nth, extract, getO, List.getElem?_cons_succ, List.getElem?_cons_zero, ex11, Option.getD_some, Option.isSome_some]
  rw [opv_alloc ti31 rfl]
  simp only [core1, execOp, opd, putT, put, nth, cel]
  refine opv_hold (v := .agg (vcells (exv 5 7) sC)) ti31 rfl (vcells_len okC.h okC.b) (vcells_cell bC.kind.2.1) f9 fun H9 r9 p9 f9' => ?_
  have s9 := (s8.old hn9 o9).grow (n' := n9 + 1) (by omega) (fun j hj => p9 j (by omega))
  have old9 : Old h H9 n := fun j hj => by rw [p9 j (by omega), o9 j (by omega), p8 j (by omega), o8 j (by omega), p7 j (by omega), o7 j (by omega), old6 j hj]
  have hb9 := hb6.keep (h' := H9) fun j q => by
    injection q with q; subst q
    rw [p9 _ (by omega), o9 _ (by omega), p8 _ (by omega), o8 _ (by omega), p7 _ (by omega), o7 _ (by omega)]
  have rA : Row H9 n7 (vcells (endV (exv 3 0) 4 b9) sA) := r7.keep (by rw [p9 _ (by omega), o9 _ (by omega), p8 _ (by omega), o8 _ (by omega)])
  simp only [core1, fgr, hkr, execOp, opd, opds, ofValue, ops2, putT, put, nth, forgetL, doCall, callV_func, List.nil_append, List.append_nil, build28z]
  refine opv_callf f9' (f38k z0 0 5 rfl s9 (by decide) f9') fun v10 h10 n10 hn10 f10 ⟨k10, hh⟩ => ?_
  rcases hh with ⟨_, e10, s10⟩ | ⟨w, hw, q, q2, _⟩
  rotate_left
  · exfalso
    rcases List.mem_cons.1 hw with q' | q'
    · rw [q'] at q
      exact absurd q ex12
    · rw [List.mem_singleton.1 q'] at q2
      exact absurd rfl q2
  subst e10
  simp only [core1, hkr, execOp, opd, opds, ofValue, ops2, putT, put, nth, doCall, callV_func, List.nil_append, List.append_nil, build28z]
  refine opv_callf f10 (f38k z0 0 3 rfl s10 (by decide) f10) fun v11 h11 n11 hn11 f11 ⟨k11, hh⟩ => ?_
  rcases hh with ⟨q, _⟩ | ⟨w, hw, q, q2, e11, s11⟩
  · have := q (endV (exv 3 0) 4 b9) List.mem_cons_self ex14
    exact absurd this (by decide)
  subst e11
  have ew : w = endV (exv 3 0) 4 b9 := by
    rcases List.mem_cons.1 hw with q' | q'
    · exact q'
    · rw [List.mem_singleton.1 q'] at q2
      exact absurd rfl q2
  subst ew
  rw [ex15] at s11
  have kk : ∀ j, (j < n ∨ j = n1) ∨ j = n7 ∨ j = n9 → h11 j = H9 j := fun j q => by
    have q' : ((j < n ∨ j = n1) ∨ n7 ≤ j ∧ j < n7 + 1) ∨ n9 ≤ j ∧ j < n9 + 1 := by
      rcases q with q | q | q
      · exact .inl (.inl q)
      · exact .inl (.inr (by omega))
      · exact .inr (by omega)
    rw [k11 j q', k10 j q']
  have old11 : Old h h11 n := fun j hj => by rw [kk j (.inl (.inl hj)), old9 j hj]
  have hb11 := hb9.keep (h' := h11) fun j q => kk j (by injection q with q; exact .inl (.inr q.symm))
  have rA' := rA.keep (kk n7 (.inr (.inl rfl)))
  have rC' := r9.keep (kk n9 (.inr (.inr rfl)))
  simp only [core1, tyr, fgr, execOp, opd, ofValue, putT, put, nth, forgetL, und, sizeOf, bor, binInt, shiftB, intOp, doPick, branch, getO, moved, fieldAddr, List.getElem?_cons_succ, List.getElem?_cons_zero, decide_true, Nat.zero_add, beq_self_eq_true]
  rw [opv_rd (row_made rA' okA)]
  simp only [core1, tyr, execOp, opd, ofValue, putT, put, nth, und, sizeOf, bor, binInt, shiftB, intOp, doPick, branch, getO, moved, fieldAddr, List.getElem?_cons_succ, List.getElem?_cons_zero, decide_true, Nat.zero_add, beq_self_eq_true, show (endV (exv 3 0) 4 b9).made = 3 from rfl]
  rw [opv_rd (row_spent rA' okA)]
  simp only [core1, tyr, execOp, opd, ofValue, putT, put, nth, und, sizeOf, bor, binInt, shiftB, intOp, unOp, doPick, branch, getO, moved, fieldAddr, List.getElem?_cons_succ, List.getElem?_cons_zero, decide_true, Bool.not_false, Nat.zero_add, beq_self_eq_true, show (endV (exv 3 0) 4 b9).spent = 4 from rfl]
  rw [opv_rd (row_value rC' okC)]
  simp only [core1, hkr, execOp, opd, opds, ofValue, putT, put, nth, doCall, callV_func, bor, binInt, shiftB, intOp, doPick, branch, List.getElem?_cons_succ, List.getElem?_cons_zero, List.nil_append, List.append_nil, decide_true, beq_self_eq_true, show (exv 5 7).value = 7 from rfl]
  refine opv_callf f11 (f43k _ [81] 9 s11 hb11 (fun j q => by injection q with q; omega) (by decide) f11) fun v12 h12 n12 hn12 f12 ⟨l12, o12⟩ => ?_
  obtain ⟨cells, c1, c2, c3⟩ := l12
  rw [ex16] at c1
  have bl := c1.rds.bLen (E := env) (ts := []) u43
  simp only [core1, fgr, execOp, opd, opds, ofValue, putT, put, nth, forgetL, doCall, builtin, one1, bor, binInt, shiftB, intOp, doPick, branch, List.getElem?_cons_succ, List.getElem?_cons_zero, int_beq, decide_true, true_and, bl]
  exact ⟨rfl, fun j hj => by rw [o12 j (by omega), old11 j hj]⟩
/- Versions and calls as arguments; what is more than statements go through. -/
theorem k5 : Try.prog.cellsOf 5 = 1 := by kernel_rfl
theorem k2 : Try.prog.cellsOf 2 = 1 := by kernel_rfl
theorem k3 : Try.prog.cellsOf 3 = 1 := by kernel_rfl
theorem k4 : Try.prog.cellsOf 4 = 1 := by kernel_rfl
theorem k25 : Try.prog.cellsOf 25 = 32 := by kernel_rfl
theorem k26 : Try.prog.cellsOf 26 = 1 := by kernel_rfl
theorem k28 : Try.prog.cellsOf 28 = 33 := by kernel_rfl
theorem k29 : Try.prog.cellsOf 29 = 1 := by kernel_rfl
theorem k31 : Try.prog.cellsOf 31 = 70 := by kernel_rfl
theorem k91 : Try.prog.cellsOf 91 = 72 := by kernel_rfl
theorem ty_u8 (b : UInt8) : toByte (u8 b) = b := by simp [toByte, u8]
theorem arg_hash {vs : List AVal} (ha : Arg Try.prog 25 vs) : ∃ l : List UInt8, vs = l.map u8 ∧ l.length = 32 := by
  obtain ⟨hl, he⟩ := ha.array_inv Try.underlying25
  rw [k25] at hl
  refine ⟨vs.map toByte, ?_, by simpa using hl⟩
  rw [List.map_map]
  refine List.ext_getElem (by simp) fun i h1 h2 => ?_
  have q := he i (by omega)
  rw [k5, Nat.mul_one] at q
  obtain ⟨z, e, hw⟩ := q.int_inv Try.underlying5
  have e' : vs[i] = .int .u8 z := by
    have : ((vs.drop i).take 1)[0]? = some vs[i] := by simp [List.getElem?_drop, h1]
    rw [e] at this
    simpa using this.symm
  rw [List.getElem_map, Function.comp, e']
  have : AVal.int .u8 z = u8 (byteOf z) := by rw [u8, byteOf_eq hw]
  rw [this, ty_u8]
theorem chop (vs : List AVal) (a k : Nat) : vs.drop a = (vs.drop a).take k ++ vs.drop (a + k) := by
  rw [← List.drop_drop, List.take_append_drop]
theorem arg_point {vs : List AVal} (ha : Arg Try.prog 28 vs) : ∃ (hash : List UInt8) (pn : Int), vs = pcells hash pn ∧ hash.length = 32 ∧ 0 ≤ pn := by
  obtain ⟨hl, he⟩ := ha.struct_inv Try.underlying28
  rw [k28] at hl
  have q0 : Arg Try.prog 25 ((vs.drop 0).take (Try.prog.cellsOf 25)) := he 0 _ rfl
  have q1 : Arg Try.prog 26 ((vs.drop 32).take (Try.prog.cellsOf 26)) := he 1 _ rfl
  rw [k25] at q0
  rw [k26] at q1
  obtain ⟨hash, e0, hh⟩ := arg_hash q0
  obtain ⟨pn, e1, hw⟩ := q1.int_inv Try.underlying26
  refine ⟨hash, pn, ?_, hh, ?_⟩
  · have c0 := chop vs 0 32
    have c1 := chop vs (0 + 32) 1
    rw [List.drop_zero] at c0
    rw [List.drop_zero] at e0
    rw [e0, c1, e1, List.drop_eq_nil_of_le (show vs.length ≤ 0 + 32 + 1 by omega)] at c0
    rw [c0]; rfl
  · simp only [Lit.wf, Bool.and_eq_true, decide_eq_true_eq] at hw
    exact hw.1
/-- A version that was handed in. -/
structure ArgVer (v : Ver) (sv : AVal) : Prop where
  ok : v.Ok
  pn : 0 ≤ v.pn
  s : ArgBytes sv v.script
  sl : v.script.length ≤ maxLen
  m : (Lit.int .i64 v.made).wf = true
theorem argB_id {v : AVal} {l : List UInt8} (hv : ArgBytes v l) : ownId v = none := by
  cases hi : ownId v with
  | none => rfl
  | some j => exact absurd (below_own (hv.below 0) hi) (Nat.not_lt_zero j)
theorem arg_ver {vs : List AVal} (ha : Arg Try.prog 31 vs) : ∃ v sv, vs = vcells v sv ∧ ArgVer v sv := by
  obtain ⟨hl, he⟩ := ha.struct_inv Try.underlying31
  rw [k31] at hl
  have q0 : Arg Try.prog 28 ((vs.drop 0).take (Try.prog.cellsOf 28)) := he 0 _ rfl
  have q1 : Arg Try.prog 3 ((vs.drop 33).take (Try.prog.cellsOf 3)) := he 1 _ rfl
  have q2 : Arg Try.prog 2 ((vs.drop 34).take (Try.prog.cellsOf 2)) := he 2 _ rfl
  have q3 : Arg Try.prog 29 ((vs.drop 35).take (Try.prog.cellsOf 29)) := he 3 _ rfl
  have q4 : Arg Try.prog 4 ((vs.drop 36).take (Try.prog.cellsOf 4)) := he 4 _ rfl
  have q5 : Arg Try.prog 3 ((vs.drop 37).take (Try.prog.cellsOf 3)) := he 5 _ rfl
  have q6 : Arg Try.prog 25 ((vs.drop 38).take (Try.prog.cellsOf 25)) := he 6 _ rfl
  rw [k28] at q0
  rw [k3] at q1 q5
  rw [k2] at q2
  rw [k29] at q3
  rw [k4] at q4
  rw [k25] at q6
  obtain ⟨hash, pn, e0, hh, hp⟩ := arg_point q0
  obtain ⟨made, e1, w1⟩ := q1.int_inv Try.underlying3
  obtain ⟨value, e2, w2⟩ := q2.int_inv Try.underlying2
  have e3 : ∃ sv, (vs.drop 35).take 1 = [sv] := by
    have : ((vs.drop 35).take 1).length = 1 := by simp; omega
    exact List.length_eq_one_iff.1 this
  obtain ⟨sv, e3⟩ := e3
  rw [e3] at q3
  obtain ⟨script, hb, hbl⟩ := arg_bytes Try.underlying29 Try.underlying5 k5 q3
  obtain ⟨base, e4⟩ := q4.bool_inv Try.underlying4
  obtain ⟨spent, e5, w5⟩ := q5.int_inv Try.underlying3
  obtain ⟨by_, e6, hby⟩ := arg_hash q6
  refine ⟨⟨hash, pn, made, value, script, base, spent, by_⟩, sv, ?_, ⟨⟨hh, hby⟩, hp, hb, hbl, w1⟩⟩
  have c0 := chop vs 0 33
  rw [List.drop_zero] at c0
  rw [List.drop_zero] at e0
  rw [e0, chop vs (0 + 33) 1, e1, chop vs (0 + 33 + 1) 1, e2, chop vs (0 + 33 + 1 + 1) 1, e3, chop vs (0 + 33 + 1 + 1 + 1) 1, e4, chop vs (0 + 33 + 1 + 1 + 1 + 1) 1, e5, chop vs (0 + 33 + 1 + 1 + 1 + 1 + 1) 32, e6, List.drop_eq_nil_of_le (show vs.length ≤ 0 + 33 + 1 + 1 + 1 + 1 + 1 + 32 by omega)] at c0
  rw [c0]
  simp [vcells, vtail]
/-- A call. -/
structure OpI where
  kind : Int
  v : Ver
  at_ : Int
def ocells (o : OpI) (sv : AVal) : List AVal := .int .i64 o.kind :: (vcells o.v sv ++ [.int .i64 o.at_])
theorem ocells_len {o : OpI} {sv : AVal} (h : o.v.Ok) : (ocells o sv).length = 72 := by
  simp [ocells, vcells_len h.h h.b]
/-- Calls that were handed in. -/
structure ArgOps (a : AVal) (os : List OpI) (xs : List AVal) : Prop where
  rd : ∀ h, Rds h 72 a os.length xs
  id : ownId a = none
  len : os.length ≤ maxLen
  at_ : ∀ j (hj : j < os.length), ∃ sv, (xs.drop (j * 72)).take 72 = ocells os[j] sv ∧ ArgVer os[j].v sv
theorem cut_len (f : Nat → AVal) (o n : Nat) : (cut f o n).length = n := by simp [cut]
theorem cut_get (f : Nat → AVal) (o n : Nat) {j : Nat} (h : j < (cut f o n).length) : (cut f o n)[j] = f (o + j) := by simp [cut]
theorem cut_sub (f : Nat → AVal) (o n a b : Nat) (h : a + b ≤ n) : ((cut f o n).drop a).take b = cut f (o + a) b := by
  refine List.ext_getElem (by simp [cut]; omega) fun i h1 h2 => ?_
  rw [List.getElem_take, List.getElem_drop, cut_get, cut_get, Nat.add_assoc]
theorem arg_ops {a : AVal} (ha : Arg Try.prog 65 [a]) : ∃ os xs, ArgOps a os xs := by
  rcases ha.slice_inv Try.underlying65 (by rw [k91]; omega) with h | ⟨f, len, h, hl, hx⟩
  · injection h with h; subst h
    exact ⟨[], [], fun h => .nils, rfl, Nat.zero_le _, fun j hj => by simp at hj⟩
  · injection h with h
    subst h
    rw [k91] at hx ⊢
    have each : ∀ i, ∃ p : OpI × AVal, i < len → cut f (i * 72) 72 = ocells p.1 p.2 ∧ ArgVer p.1.v p.2 := fun i => by
      by_cases hi : i < len
      · obtain ⟨hl, he⟩ := (hx i hi).struct_inv Try.underlying91
        have q0 : Arg Try.prog 3 (((cut f (i * 72) 72).drop 0).take (Try.prog.cellsOf 3)) := he 0 _ rfl
        have q1 : Arg Try.prog 31 (((cut f (i * 72) 72).drop 1).take (Try.prog.cellsOf 31)) := he 1 _ rfl
        have q2 : Arg Try.prog 3 (((cut f (i * 72) 72).drop 71).take (Try.prog.cellsOf 3)) := he 2 _ rfl
        rw [k3] at q0 q2
        rw [k31] at q1
        obtain ⟨kind, e0, _⟩ := q0.int_inv Try.underlying3
        obtain ⟨v, sv, e1, hv⟩ := arg_ver q1
        obtain ⟨at_, e2, _⟩ := q2.int_inv Try.underlying3
        refine ⟨(⟨kind, v, at_⟩, sv), fun _ => ⟨?_, hv⟩⟩
        have c0 := chop (cut f (i * 72) 72) 0 1
        rw [List.drop_zero] at c0
        rw [List.drop_zero] at e0
        rw [e0, chop _ (0 + 1) 70, e1, chop _ (0 + 1 + 70) 1, e2, List.drop_eq_nil_of_le (by rw [cut_len]; omega)] at c0
        rw [c0]
        simp [ocells]
      · exact ⟨(⟨0, noV, 0⟩, .nils), fun q => absurd q hi⟩
    obtain ⟨b, hb⟩ := Classical.axiomOfChoice each
    refine ⟨(List.range len).map fun i => (b i).1, cut f 0 (len * 72), fun h => ?_, rfl, by simpa using hl, fun j hj => ?_⟩
    · have := Rds.isl (h := h) (sz := 72) f 0 len (cut f 0 (len * 72)) (by rw [cut_len]) (fun j hj => by rw [cut_get])
      simpa using this
    · simp only [List.length_map, List.length_range] at hj
      simp only [List.getElem_map, List.getElem_range]
      rw [cut_sub _ _ _ _ _ (by omega), Nat.zero_add]
      exact ⟨(b j).2, hb j hj⟩
theorem u65 : und env 65 = M.pure (.slice 91) := rfl
theorem z91 : sizeOf env 91 = M.pure 72 := rfl
/-- An element of a list of pieces. -/
theorem piece {xs ys : List AVal} {a b i : Nat} (h : (xs.drop a).take b = ys) (hi : i < b) : xs[a + i]? = ys[i]? := by
  rw [← h, List.getElem?_take, if_pos hi, List.getElem?_drop]
theorem ocells_v {o : OpI} {sv : AVal} {i : Nat} (h : o.v.Ok) (hi : i < 70) : (ocells o sv)[i + 1]? = (vcells o.v sv)[i]? := by
  unfold ocells
  rw [List.getElem?_cons_succ, List.getElem?_append_left (by rw [vcells_len h.h h.b]; omega)]
def overI (o : OpI) : Bool := decide (200 < o.v.script.length)
def greatI (os : List OpI) : Bool := os.any overI || decide (80 < os.length)
theorem loop30 (Q : Post0) (ks : List Kf) (a : AVal) (os : List OpI) (xs : List AVal) (h : Hp) (n : Nat) (ha : ArgOps a os xs)
    (hq : ∀ (x3 x7 x16 : AVal), os.any overI = false → Kont env 30 none Q ks (.exit 0) (a :: AVal.junk :: .bool false :: x3 :: AVal.junk :: .int .i64 (os.length : Nat) :: .int .i64 (os.length : Nat) :: x7 :: AVal.junk :: AVal.junk :: AVal.junk :: AVal.junk :: AVal.junk :: AVal.junk :: AVal.junk :: AVal.junk :: x16 :: AVal.junk :: AVal.junk :: AVal.junk :: AVal.junk :: []) h n)
    (hr : ∀ (x3 x7 x16 : AVal) (z : AVal), os.any overI = true → Kont env 30 none Q ks .ret (a :: AVal.junk :: .bool true :: x3 :: AVal.junk :: .int .i64 (os.length : Nat) :: z :: x7 :: AVal.junk :: AVal.junk :: AVal.junk :: AVal.junk :: AVal.junk :: AVal.junk :: AVal.junk :: AVal.junk :: x16 :: AVal.junk :: AVal.junk :: AVal.junk :: AVal.junk :: []) h n) :
    ∀ (m i : Nat) (x3 x7 x16 : AVal), i + m = os.length → (os.take i).any overI = false →
    Run env 30 none Q (.loop lp30_0) ks (a :: AVal.junk :: .bool false :: x3 :: AVal.junk :: .int .i64 (os.length : Nat) :: .int .i64 (i : Nat) :: x7 :: AVal.junk :: AVal.junk :: AVal.junk :: AVal.junk :: AVal.junk :: AVal.junk :: AVal.junk :: AVal.junk :: x16 :: AVal.junk :: AVal.junk :: AVal.junk :: AVal.junk :: []) h n := by
  have hlen := ha.len
  have hm : maxLen = 9223372036854775807 := rfl
  intro m
  induction m with
  | zero =>
    intro i x3 x7 x16 hi hs
    have : i = os.length := by omega
    subst this
    have hc : ¬ ((os.length : Nat) : Int) < ((os.length : Nat) : Int) := by omega
    rw [run_loop]
    simp only [lp30_0, loopsOf, Try.f30, Option.getD_some, core1, fgr, execOp, opd, putT, put, nth, forgetL, bor, binInt, shiftB, intOp, List.nil_append, List.append_nil, decide_true, decide_false, List.getD_cons_zero, hc]
    rw [List.take_length] at hs
    exact hq _ _ _ hs
  | succ m ih =>
    intro i x3 x7 x16 hi hs
    have hil : i < os.length := by omega
    have hc : ((i : Nat) : Int) < ((os.length : Nat) : Int) := by omega
    have hwr : IntKind.i64.wrap (((i : Nat) : Int) + 1) = ((i + 1 : Nat) : Int) := by rw [w64 (by omega) (by omega)]; omega
    obtain ⟨sv, e, hv⟩ := ha.at_ i hil
    have hr0 := ha.rd h
    have m1 := moved_adr hr0 (by omega) (i * 72) 1
    have m2 := moved_adr hr0 (by omega) (i * 72 + 1) 35
    have hx : xs[i * 72 + 1 + 35]? = some sv := by
      rw [show i * 72 + 1 + 35 = i * 72 + (35 + 1) by omega, piece e (by omega), ocells_v hv.ok (by omega)]
      exact vcells_t hv.ok.h 2
    rw [run_loop]
    simp only [lp30_0, loopsOf, Try.f30, Option.getD_some, core1, fgr, execOp, opd, putT, put, nth, forgetL, bor, binInt, shiftB, intOp, List.nil_append, List.append_nil, decide_true, List.getD_cons_zero, hc]
    rw [opv_rd (hr0.idx (j := i) u65 z91 rfl hil)]
    simp only [core1, tyr, execOp, opd, putT, put, nth, und, sizeOf, getO, fieldAddr, List.getElem?_cons_succ, List.getElem?_cons_zero, m1, m2]
    rw [opv_rd (hr0.load (k := i * 72 + 1 + 35) ti29 rfl hx)]
    by_cases hov : 200 < os[i].v.script.length
    · have hc2 : 200 < ((os[i].v.script.length : Nat) : Int) := by omega
      simp only [core1, fgr, execOp, opd, opds, ofValue, putT, put, nth, forgetL, doCall, builtin, one1, bor, binInt, shiftB, intOp, gt_iff_lt, decide_true, (hv.s.bytes h).bLen t29, hc2]
      exact hr _ _ _ _ (List.any_eq_true.2 ⟨_, List.getElem_mem hil, decide_eq_true hov⟩)
    · have hc2 : ¬ 200 < ((os[i].v.script.length : Nat) : Int) := by omega
      simp only [core1, fgr, execOp, opd, opds, ofValue, putT, put, nth, forgetL, doCall, builtin, one1, bor, binInt, shiftB, intOp, wrapI, gt_iff_lt, decide_true, decide_false, (hv.s.bytes h).bLen t29, hc2, hwr]
      refine ih (i + 1) _ _ _ (by omega) ?_
      rw [List.take_add_one, List.getElem?_eq_getElem hil, Option.toList_some, List.any_append, hs]
      simp [overI, hov]
theorem f30 (a : AVal) (os : List OpI) (xs : List AVal) (h : Hp) (n : Nat) (ha : ArgOps a os xs) :
    Wp (callI env (evalW env) 30 [a]) h n fun v' h' n' => v' = .bool (greatI os) ∧ h' = h ∧ n' = n := by
  refine wp_callI ff30 fi30 ?_
  have hr0 := ha.rd h
  simp only [fu30, Try.f30, Option.getD_some, List.replicate, core1, fgr, execOp, opd, opds, ofValue, putT, put, nth, forgetL, doCall, builtin, one1, ended, resultOf, oneOrTup, List.cons_append, List.nil_append, List.length_cons, List.length_nil, Nat.reduceSub, Nat.zero_add, wp_pure, hr0.bLen u65]
  refine loop30 _ _ a os xs h n ha ?_ ?_ os.length 0 _ _ _ (by omega) rfl
  · intro x3 x7 x16 hn
    by_cases h80 : 80 < os.length
    · have hc : 80 < ((os.length : Nat) : Int) := by omega
      simp only [core1, fgr, execOp, opd, opds, ofValue, putT, put, nth, forgetL, doCall, builtin, one1, bor, binInt, shiftB, intOp, gt_iff_lt, decide_true, Bool.or_true, and_self, hr0.bLen u65, hc, greatI, hn, h80]
    · have hc : ¬ 80 < ((os.length : Nat) : Int) := by omega
      simp only [core1, fgr, execOp, opd, opds, ofValue, putT, put, nth, forgetL, doCall, builtin, one1, bor, binInt, shiftB, intOp, gt_iff_lt, decide_true, decide_false, Bool.or_false, and_self, hr0.bLen u65, hc, greatI, hn, h80]
  · intro x3 x7 x16 z hn
    simp only [core1, nth, Bool.true_or, and_self, greatI, hn]
theorem great_false {os : List OpI} (h : greatI os = false) : os.length ≤ 80 ∧ ∀ o ∈ os, o.v.script.length ≤ 200 := by
  unfold greatI at h
  simp only [Bool.or_eq_false_iff, decide_eq_false_iff_not] at h
  refine ⟨by omega, fun o ho => ?_⟩
  by_cases q : 200 < o.v.script.length
  · rw [List.any_eq_true.2 ⟨o, ho, decide_eq_true q⟩] at h; cases h.1
  · omega
/- An index behind calls. -/
section
variable {h : Hp} {n id : Nat} {o : OpI} {sv : AVal}
theorem orow_kind (hr : Row h id (ocells o sv)) : Rd (load env 3 (.ptr id 0)) h n [id] (.int .i64 o.kind) := hr.one rfl ti3 rfl
theorem orow_made (hr : Row h id (ocells o sv)) (ho : o.v.Ok) : Rd (load env 3 (.ptr id 34)) h n [id] (.int .i64 o.v.made) := hr.one ((ocells_v ho (by omega)).trans (vcells_t ho.h 0)) ti3 rfl
theorem orow_at (hr : Row h id (ocells o sv)) (ho : o.v.Ok) : Rd (load env 3 (.ptr id 71)) h n [id] (.int .i64 o.at_) := hr.one (by
  unfold ocells
  rw [List.getElem?_cons_succ, List.getElem?_append_right (by rw [vcells_len ho.h ho.b]; omega), vcells_len ho.h ho.b]; rfl) ti3 rfl
theorem orow_v (hr : Row h id (ocells o sv)) (ho : o.v.Ok) : Rd (load env 31 (.ptr id 1)) h n [id] (.agg (vcells o.v sv)) := by
  have := hr.agg (E := env) (n := n) (off := 1) ti31 rfl (by rw [ocells_len ho]; decide)
  have e : ((ocells o sv).drop 1).take 70 = vcells o.v sv := by
    unfold ocells
    rw [List.drop_one, List.tail_cons, List.take_append_of_le_length (by rw [vcells_len ho.h ho.b]; omega), List.take_of_length_le (by rw [vcells_len ho.h ho.b]; omega)]
  exact e ▸ this
theorem orow_pt (hr : Row h id (ocells o sv)) (ho : o.v.Ok) : Rd (load env 28 (.ptr id 1)) h n [id] (.agg (pcells o.v.hash o.v.pn)) := by
  have := hr.agg (E := env) (n := n) (off := 1) ti28 rfl (by rw [ocells_len ho]; decide)
  have e : ((ocells o sv).drop 1).take 33 = pcells o.v.hash o.v.pn := by
    unfold ocells
    rw [List.drop_one, List.tail_cons, List.take_append_of_le_length (by rw [vcells_len ho.h ho.b]; omega), vcells_p ho.h]
  exact e ▸ this
theorem orow_by (hr : Row h id (ocells o sv)) (ho : o.v.Ok) : Rd (load env 25 (.ptr id 39)) h n [id] (.agg (o.v.by_.map u8)) := by
  have := hr.agg (E := env) (n := n) (off := 39) ti25 rfl (by rw [ocells_len ho]; decide)
  have e : ((ocells o sv).drop 39).take 32 = o.v.by_.map u8 := by
    unfold ocells
    rw [show 39 = 38 + 1 from rfl, List.drop_succ_cons]
    unfold vcells
    rw [List.append_assoc, List.drop_append, List.drop_eq_nil_of_le (by rw [pcells_len ho.h]; omega), pcells_len ho.h]
    show (([] : List AVal) ++ (o.v.by_.map u8 ++ [AVal.int .i64 o.at_])).take 32 = _
    rw [List.nil_append, List.take_append_of_le_length (by simp [ho.b]), List.take_of_length_le (by simp [ho.b])]
  exact e ▸ this
end
theorem dropV_len {L : List Ver} {w : Ver} (r : Rises false L) (hw : w ∈ L) : (dropV L w).length + 1 = L.length := by
  obtain ⟨hp, _⟩ := pos_at r (pos_pos r w) hw
  exact ((delL_perm hp).length_eq.trans rfl).symm
theorem ocells_cell {o : OpI} {sv : AVal} (h : oneCell sv = true) : (ocells o sv).all oneCell = true := by
  unfold ocells
  rw [List.all_cons, List.all_append, vcells_cell h]; rfl
/-- What calls make: so many versions at most, with scripts so long at most. -/
structure Small (L : List Ver) (i : Nat) : Prop where
  len : L.length ≤ i
  s : ∀ v ∈ L, v.script.length ≤ 200
theorem Small.set {L : List Ver} {i : Nat} {w v : Ver} (s : Small L i) (hw : w ∈ L) (hv : v.script = w.script) : Small (setV L w v) (i + 1) :=
  ⟨by rw [setV_len]; have := s.len; omega, fun u hu => by
    rcases setV_mem hu with rfl | hu
    · rw [hv]; exact s.s w hw
    · exact s.s u hu⟩
theorem loop31 (Q : Post0) (ks : List Kf) (a : AVal) (os : List OpI) (xs : List AVal) (K : Nat → Prop) (x : Nat) (h0 : Hp) (ha : ArgOps a os xs) (hl : os.length ≤ 80) (hsc : ∀ o ∈ os, o.v.script.length ≤ 200)
    (hT : ∀ (h : Hp) (n : Nat) (L : List Ver) (x5 x10 x14 x15 x21 x36 x46 : AVal), Ixk K h n x L → Small L os.length → Free h n → (∀ j, K j → h j = h0 j) → Kont env 31 none Q ks (.exit 0) (a :: AVal.junk :: .nilp :: .ptr x 0 :: AVal.junk :: x5 :: AVal.junk :: a :: .int .i64 (os.length : Nat) :: .int .i64 (os.length : Nat) :: x10 :: AVal.junk :: AVal.junk :: AVal.junk :: x14 :: x15 :: AVal.junk :: AVal.junk :: AVal.junk :: AVal.junk :: AVal.junk :: x21 :: AVal.junk :: AVal.junk :: AVal.junk :: AVal.junk :: AVal.junk :: AVal.junk :: AVal.junk :: AVal.junk :: AVal.junk :: AVal.junk :: AVal.junk :: AVal.junk :: AVal.junk :: AVal.junk :: x36 :: AVal.junk :: AVal.junk :: AVal.junk :: AVal.junk :: AVal.junk :: AVal.junk :: AVal.junk :: AVal.junk :: AVal.junk :: x46 :: AVal.junk :: AVal.junk :: AVal.junk :: AVal.junk :: AVal.junk :: AVal.junk :: AVal.junk :: AVal.junk :: AVal.junk :: AVal.junk :: AVal.junk :: []) h n) :
    ∀ (m i : Nat) (h : Hp) (n : Nat) (L : List Ver) (x5 x10 x14 x15 x21 x36 x46 : AVal), i + m = os.length → Ixk K h n x L → Small L i → Free h n → (∀ j, K j → h j = h0 j) →
      Run env 31 none Q (.loop lp31_0) ks (a :: AVal.junk :: .nilp :: .ptr x 0 :: AVal.junk :: x5 :: AVal.junk :: a :: .int .i64 (os.length : Nat) :: .int .i64 (i : Nat) :: x10 :: AVal.junk :: AVal.junk :: AVal.junk :: x14 :: x15 :: AVal.junk :: AVal.junk :: AVal.junk :: AVal.junk :: AVal.junk :: x21 :: AVal.junk :: AVal.junk :: AVal.junk :: AVal.junk :: AVal.junk :: AVal.junk :: AVal.junk :: AVal.junk :: AVal.junk :: AVal.junk :: AVal.junk :: AVal.junk :: AVal.junk :: AVal.junk :: x36 :: AVal.junk :: AVal.junk :: AVal.junk :: AVal.junk :: AVal.junk :: AVal.junk :: AVal.junk :: AVal.junk :: AVal.junk :: x46 :: AVal.junk :: AVal.junk :: AVal.junk :: AVal.junk :: AVal.junk :: AVal.junk :: AVal.junk :: AVal.junk :: AVal.junk :: AVal.junk :: AVal.junk :: []) h n := by
  intro m
  induction m with
  | zero =>
    intro i h n L x5 x10 x14 x15 x21 x36 x46 hm hs hS hf ho
    have : i = os.length := by omega
    subst this
    rw [run_loop]
    have hcc : ¬ (((os.length : Nat) : Int) < ((os.length : Nat) : Int)) := by omega
    simp only [lp31_0, loopsOf, Try.f31, Option.getD_some, core1, fgr, execOp, opd, putT, put, nth, forgetL, bor, binInt, shiftB, intOp, List.nil_append, List.append_nil, decide_true, decide_false, List.getD_cons_zero, hcc]
    exact hT h n L _ _ _ _ _ _ _ hs hS hf ho
  | succ m ih =>
    intro i h n L x5 x10 x14 x15 x21 x36 x46 hm hs hS hf ho
    have hil : i < os.length := by omega
    have hcc : (((i : Nat) : Int) < ((os.length : Nat) : Int)) := by omega
    have w1 : IntKind.i64.wrap (((i : Nat) : Int) + 1) = ((i + 1 : Nat) : Int) := by rw [w64 (by omega) (by omega)]; omega
    obtain ⟨sv, e, hv⟩ := ha.at_ i hil
    have hr0 := ha.rd h
    have hmem : os[i] ∈ os := List.getElem_mem hil
    generalize hoi : os[i] = o at *
    have hld := hr0.agg (E := env) (n := n) (k := i * 72) ti91 rfl (by decide) (by show i * 72 + 72 ≤ _; rw [hr0.length]; omega)
    have hld' : Rd (load env 91 (addrOf (i * 72) a)) h n (rid a) (.agg (ocells o sv)) := by
      have e' : (xs.drop (i * 72)).take 72 = ocells o sv := e
      exact e' ▸ hld
    have svk := (hv.s.bytes h).kind
    rw [run_loop]
    simp only [lp31_0, loopsOf, Try.f31, Option.getD_some, core1, fgr, execOp, opd, putT, put, nth, forgetL, bor, binInt, shiftB, intOp, List.nil_append, List.append_nil, decide_true, List.getD_cons_zero, hcc]
    rw [opv_rd (hr0.idx (j := i) u65 z91 rfl hil)]
    simp only [core1, execOp, opd, putT, put, nth]
    rw [opv_rd hld']
    simp only [core1, execOp, putT, put]
    rw [opv_alloc ti91 rfl]
    simp only [core1, execOp, opd, putT, put, nth, cel]
    refine opv_hold (v := .agg (ocells o sv)) ti91 rfl (ocells_len hv.ok) (ocells_cell svk.2.1) hf fun H1 r1 p1 f1 => ?_
    have s1 := hs.old (n' := n + 1) (by omega) (fun j hj => p1 j (by omega))
    have ho1 : ∀ j, K j → H1 j = h0 j := fun j hj => by rw [p1 j (by have := hs.k hj; omega), ho j hj]
    have hc9 : L.length ≤ 900000 := by have := hS.len; omega
    have hsl : o.v.script.length ≤ 200 := hsc o hmem
    have hS1 : Small L (i + 1) := ⟨by have := hS.len; omega, hS.s⟩
    simp only [core1, tyr, fgr, execOp, opd, putT, put, nth, forgetL, und, sizeOf, getO, moved, fieldAddr, List.getElem?_cons_zero, Nat.zero_add]
    rw [opv_rd (orow_kind r1)]
    simp only [core1, fgr, execOp, opd, ofValue, putT, put, nth, forgetL, bor, binInt, shiftB, intOp, int_beq, decide_true]
    by_cases c0 : o.kind = 0
    · simp only [core1, tyr, execOp, opd, putT, put, nth, und, sizeOf, getO, moved, fieldAddr, List.getElem?_cons_succ, List.getElem?_cons_zero, decide_true, Nat.zero_add, c0]
      rw [opv_rd (orow_v r1 hv.ok)]
      simp only [core1, hkr, execOp, opd, opds, putT, put, nth, doCall, callV_func, List.nil_append, List.append_nil]
      refine opv_callf f1 (f33k o.v sv hv.ok hv.pn (by omega) s1 (hv.s.bytes _) (fun j q => by rw [argB_id hv.s] at q; cases q) hc9 f1) fun v2 h2 n2 hn2 f2 ⟨k2, hh⟩ => ?_
      have ho2 : ∀ j, K j → h2 j = h0 j := fun j hj => by rw [k2 j hj, ho1 j hj]
      rcases hh with ⟨_, e2, s2⟩ | ⟨_, e2, s2⟩
      · subst e2
        simp only [core1, fgr, execOp, opd, ofValue, putT, put, nth, forgetL, bor, binInt, shiftB, intOp, wrapI, decide_true, w1]
        exact ih (i + 1) h2 n2 L _ _ _ _ _ _ _ (by omega) s2 hS1 f2 ho2
      · subst e2
        simp only [core1, fgr, execOp, opd, ofValue, putT, put, nth, forgetL, bor, binInt, shiftB, intOp, wrapI, decide_true, w1]
        exact ih (i + 1) h2 n2 _ _ _ _ _ _ _ _ (by omega) s2 ⟨by rw [putV_len]; have := hS.len; omega, fun u hu => by
          rcases putV_mem.1 hu with rfl | hu
          · exact hsl
          · exact hS.s u hu⟩ f2 ho2
    by_cases c1 : o.kind = 1
    · simp only [core1, tyr, fgr, execOp, opd, ofValue, putT, put, nth, forgetL, und, sizeOf, bor, binInt, shiftB, intOp, getO, moved, fieldAddr, List.getElem?_cons_succ, List.getElem?_cons_zero, Int.reduceEq, decide_true, decide_false, Nat.zero_add, Nat.add_zero, beq_self_eq_true, c1]
      rw [opv_rd (orow_pt r1 hv.ok)]
      simp only [core1, tyr, execOp, opd, putT, put, nth, und, sizeOf, getO, moved, fieldAddr, List.getElem?_cons_succ, List.getElem?_cons_zero, Nat.reduceAdd, Nat.zero_add]
      rw [opv_rd (orow_made r1 hv.ok)]
      simp only [core1, tyr, execOp, opd, putT, put, nth, und, sizeOf, getO, moved, fieldAddr, List.getElem?_cons_succ, List.getElem?_cons_zero, Nat.zero_add]
      rw [opv_rd (orow_at r1 hv.ok)]
      simp only [core1, tyr, execOp, opd, putT, put, nth, und, sizeOf, getO, moved, fieldAddr, List.getElem?_cons_succ, List.getElem?_cons_zero, Nat.reduceAdd, Nat.zero_add]
      rw [opv_rd (orow_by r1 hv.ok)]
      simp only [core1, hkr, execOp, opd, opds, putT, put, nth, doCall, callV_func, List.nil_append, List.append_nil]
      refine opv_callf f1 (f36k o.v.hash o.v.pn o.v.made o.at_ o.v.by_ hv.ok.h hv.ok.b s1 hc9 f1) fun v2 h2 n2 hn2 f2 ⟨k2, hh⟩ => ?_
      have ho2 : ∀ j, K j → h2 j = h0 j := fun j hj => by rw [k2 j hj, ho1 j hj]
      rcases hh with ⟨_, e2, s2⟩ | ⟨w, hw, _, _, _, _, e2, s2⟩
      · subst e2
        simp only [core1, fgr, execOp, opd, ofValue, putT, put, nth, forgetL, bor, binInt, shiftB, intOp, wrapI, decide_true, w1]
        exact ih (i + 1) h2 n2 L _ _ _ _ _ _ _ (by omega) s2 hS1 f2 ho2
      · subst e2
        simp only [core1, fgr, execOp, opd, ofValue, putT, put, nth, forgetL, bor, binInt, shiftB, intOp, wrapI, decide_true, w1]
        exact ih (i + 1) h2 n2 _ _ _ _ _ _ _ _ (by omega) s2 (hS.set hw rfl) f2 ho2
    by_cases c2 : o.kind = 2
    · simp only [core1, tyr, fgr, execOp, opd, ofValue, putT, put, nth, forgetL, und, sizeOf, bor, binInt, shiftB, intOp, getO, moved, fieldAddr, List.getElem?_cons_succ, List.getElem?_cons_zero, int_beq, Int.reduceEq, decide_true, decide_false, Nat.zero_add, Nat.add_zero, beq_self_eq_true, c2]
      rw [opv_rd (orow_pt r1 hv.ok)]
      simp only [core1, tyr, execOp, opd, putT, put, nth, und, sizeOf, getO, moved, fieldAddr, List.getElem?_cons_succ, List.getElem?_cons_zero, Nat.reduceAdd, Nat.zero_add]
      rw [opv_rd (orow_made r1 hv.ok)]
      simp only [core1, hkr, execOp, opd, opds, putT, put, nth, doCall, callV_func, List.nil_append, List.append_nil]
      refine opv_callf f1 (f38k o.v.hash o.v.pn o.v.made hv.ok.h s1 hc9 f1) fun v2 h2 n2 hn2 f2 ⟨k2, hh⟩ => ?_
      have ho2 : ∀ j, K j → h2 j = h0 j := fun j hj => by rw [k2 j hj, ho1 j hj]
      rcases hh with ⟨_, e2, s2⟩ | ⟨w, hw, _, _, e2, s2⟩
      · subst e2
        simp only [core1, fgr, execOp, opd, ofValue, putT, put, nth, forgetL, bor, binInt, shiftB, intOp, wrapI, decide_true, w1]
        exact ih (i + 1) h2 n2 L _ _ _ _ _ _ _ (by omega) s2 hS1 f2 ho2
      · subst e2
        simp only [core1, fgr, execOp, opd, ofValue, putT, put, nth, forgetL, bor, binInt, shiftB, intOp, wrapI, decide_true, w1]
        exact ih (i + 1) h2 n2 _ _ _ _ _ _ _ _ (by omega) s2 (hS.set hw rfl) f2 ho2
    by_cases c3 : o.kind = 3
    · simp only [core1, tyr, fgr, execOp, opd, ofValue, putT, put, nth, forgetL, und, sizeOf, bor, binInt, shiftB, intOp, getO, moved, fieldAddr, List.getElem?_cons_succ, List.getElem?_cons_zero, int_beq, Int.reduceEq, decide_true, decide_false, Nat.zero_add, Nat.add_zero, beq_self_eq_true, c3]
      rw [opv_rd (orow_pt r1 hv.ok)]
      simp only [core1, tyr, execOp, opd, putT, put, nth, und, sizeOf, getO, moved, fieldAddr, List.getElem?_cons_succ, List.getElem?_cons_zero, Nat.reduceAdd, Nat.zero_add]
      rw [opv_rd (orow_made r1 hv.ok)]
      simp only [core1, hkr, execOp, opd, opds, putT, put, nth, doCall, callV_func, List.nil_append, List.append_nil]
      refine opv_callf f1 (f34k o.v.hash o.v.pn o.v.made hv.ok.h s1 hc9 f1) fun v2 h2 n2 hn2 f2 ⟨k2, hh⟩ => ?_
      have ho2 : ∀ j, K j → h2 j = h0 j := fun j hj => by rw [k2 j hj, ho1 j hj]
      rcases hh with ⟨_, e2, s2⟩ | ⟨w, hw, _, e2, s2⟩
      · subst e2
        simp only [core1, fgr, execOp, opd, ofValue, putT, put, nth, forgetL, bor, binInt, shiftB, intOp, wrapI, decide_true, w1]
        exact ih (i + 1) h2 n2 L _ _ _ _ _ _ _ (by omega) s2 hS1 f2 ho2
      · subst e2
        simp only [core1, fgr, execOp, opd, ofValue, putT, put, nth, forgetL, bor, binInt, shiftB, intOp, wrapI, decide_true, w1]
        exact ih (i + 1) h2 n2 _ _ _ _ _ _ _ _ (by omega) s2 ⟨by have := dropV_len hs.rL hw; have := hS.len; omega, fun u hu => hS.s u (dropV_sub hu)⟩ f2 ho2
    simp only [core1, fgr, execOp, opd, ofValue, putT, put, nth, forgetL, bor, binInt, shiftB, intOp, wrapI, int_beq, decide_true, decide_false, c0, c1, c2, c3, w1]
    exact ih (i + 1) H1 (n + 1) L _ _ _ _ _ _ _ (by omega) s1 hS1 f1 ho1
theorem f31 (a : AVal) (os : List OpI) (xs : List AVal) (h : Hp) (n : Nat) (ha : ArgOps a os xs) (hg : greatI os = false) (hf : Free h n) :
    Wp (callI env (evalW env) 31 [a]) h n fun v' h' n' => ∃ x L, v' = .ptr x 0 ∧ n ≤ x ∧ Ixk (fun j => j < n) h' n' x L ∧ Small L 80 ∧ Old h h' n := by
  obtain ⟨g1, g2⟩ := great_false hg
  have hr0 := ha.rd
  refine wp_callI ff31 fi31 ?_
  simp only [fu31, Try.f31, Option.getD_some, List.replicate, core1, fgr, hkr, execOp, opd, opds, ofValue, putT, put, forgetL, doCall, callV_func, ended, resultOf, oneOrTup, List.cons_append, List.nil_append, List.append_nil, List.length_cons, List.length_nil, Nat.reduceSub, Nat.zero_add, wp_pure]
  refine opv_callf hf (f40k h n hf) fun v1 h1 n1 hn1 f1 ⟨x, e1, hx, s1, o1⟩ => ?_
  subst e1
  simp only [core1, fgr, execOp, opd, opds, ofValue, putT, put, nth, forgetL, doCall, builtin, one1, (hr0 h1).bLen u65]
  refine loop31 _ _ a os xs (fun j => j < n) x h1 ha g1 g2 ?_ os.length 0 h1 n1 [] _ _ _ _ _ _ _ (by omega) s1 ⟨Nat.le_refl _, fun v hv => by cases hv⟩ f1 (fun j hj => rfl)
  intro h2 n2 L x5 x10 x14 x15 x21 x36 x46 s2 hS f2 ho
  simp only [core1, fgr, execOp, opd, putT, put, nth, forgetL, true_and]
  exact ⟨x, L, rfl, hx, s2, ⟨by have := hS.len; omega, hS.s⟩, fun j hj => by rw [ho j hj, o1 j hj]⟩
/- Versions that are ended at a height, plainly. -/
theorem eqVr_refl (v : Ver) : eqVr v v = true := by
  unfold eqVr
  simp [show cmpP v.hash v.pn v.hash v.pn = 0 from ordQ.refl v]
/-! Lists of versions -/
theorem VL.keep {h h' : Hp} {a b : Nat} {v : AVal} {vs : List Ver} (l : VL h a b v vs) (hk : ∀ j, a ≤ j → j < b → h' j = h j) : VL h' a b v vs := by
  obtain ⟨cells, c1, c2, c3⟩ := l
  exact ⟨cells, c1.keep fun j q => hk j (c3 j q).1 (c3 j q).2, c2.mono (fun j q => q) (fun j q => hk j q.1 q.2.1), c3⟩
theorem VL.old {h h' : Hp} {a b n : Nat} {v : AVal} {vs : List Ver} (l : VL h a b v vs) (hn : b ≤ n) (hk : Old h h' n) : VL h' a b v vs := l.keep fun j _ q => hk j (by omega)
/-- One of a list, in memory. -/
structure VAt (h : Hp) (a b : Nat) (v : AVal) (k : Nat) (w : Ver) (sw : AVal) : Prop where
  ok : w.Ok
  all : ∀ n, Rd (load env 31 (addrOf k v)) h n (rid v) (.agg (vcells w sw))
  pt : ∀ n, Rd (load env 28 (addrOf k v)) h n (rid v) (.agg (pcells w.hash w.pn))
  made : ∀ n, Rd (load env 3 (addrOf (k + 33) v)) h n (rid v) (.int .i64 w.made)
  spent : ∀ n, Rd (load env 3 (addrOf (k + 37) v)) h n (rid v) (.int .i64 w.spent)
  script : ∀ n, Rd (load env 29 (addrOf (k + 35) v)) h n (rid v) sw
  mv : ∀ k m, moved m (addrOf k v) = M.pure (addrOf (k + m) v)
  s : Bytes h sw w.script
  sn : ∀ j, ownId sw = some j → a ≤ j ∧ j < b
theorem VL.at_ {h : Hp} {a b : Nat} {v : AVal} {vs : List Ver} (l : VL h a b v vs) {i : Nat} (hi : i < vs.length) : ∃ sw, VAt h a b v (i * 70) vs[i] sw := by
  obtain ⟨cells, c1, c2, c3⟩ := l
  obtain ⟨sw, e, bs, o, d⟩ := c2.at_ i hi
  have hr := c1.rds
  have hl : i * 70 + 70 ≤ cells.length := by rw [c2.len]; omega
  have one : ∀ k x, k < 70 → (vcells vs[i] sw)[k]? = some x → cells[i * 70 + k]? = some x := fun k x hk hx => by rw [piece e hk, hx]
  refine ⟨sw, o, fun n => ?_, fun n => ?_, fun n => hr.load ti3 rfl (one 33 _ (by omega) (vcells_t o.h 0)), fun n => hr.load ti3 rfl (one 37 _ (by omega) (vcells_t o.h 4)), fun n => hr.load ti29 rfl (one 35 _ (by omega) (vcells_t o.h 2)), fun k m => moved_adr hr (by omega) k m, bs, fun j q => ⟨(d j q).1, (d j q).2.1⟩⟩
  · have := hr.agg (E := env) (n := n) (k := i * 70) ti31 rfl (by decide) hl
    have e' : (cells.drop (i * 70)).take 70 = vcells vs[i] sw := e
    exact e' ▸ this
  · have := hr.agg (E := env) (n := n) (k := i * 70) ti28 rfl (by decide) (by show i * 70 + 33 ≤ _; omega)
    have e' : (cells.drop (i * 70)).take 33 = pcells vs[i].hash vs[i].pn := by
      rw [← vcells_p (sv := sw) o.h, ← e, List.take_take]; rfl
    exact e' ▸ this
theorem VL.len {h : Hp} {a b : Nat} {v : AVal} {vs : List Ver} (l : VL h a b v vs) {ts : List TypeId} : bLen env (43 :: ts) v = M.pure (.int .i64 (vs.length : Nat)) := by
  obtain ⟨cells, c1, c2, c3⟩ := l
  exact c1.rds.bLen u43
theorem VL.idx {h : Hp} {a b : Nat} {v : AVal} {vs : List Ver} (l : VL h a b v vs) {i : Nat} (hi : i < vs.length) {h' : Hp} {n' : Nat} : Rd (indexAddr env 43 v (.int .i64 ((i : Nat) : Int))) h' n' [] (addrOf (i * 70) v) := by
  obtain ⟨cells, c1, c2, c3⟩ := l
  exact c1.rds.idx u43 z31s rfl hi
/- IndexLater's rounds. -/
def b1 : List UInt8 := 1 :: List.replicate 31 0
theorem take_snoc {α : Type} {l : List α} {i : Nat} (h : i < l.length) : l.take (i + 1) = l.take i ++ [l[i]] := by
  rw [List.take_add_one, List.getElem?_eq_getElem h]; rfl
/-- The places of those that are kept. -/
def kpB (ls : List (List UInt8)) (j : Nat) : Bool := j == 0 || (ls.getD j [] != ls.getD (j - 1) [])
def kp (ls : List (List UInt8)) (m : Nat) : List Nat := (List.range m).filter (kpB ls)
theorem kp_s (ls : List (List UInt8)) (m : Nat) : kp ls (m + 1) = if kpB ls m then kp ls m ++ [m] else kp ls m := by
  unfold kp
  rw [List.range_succ, List.filter_append]
  cases h : kpB ls m with
  | true => simp [h]
  | false => simp [h]
theorem kp_le (ls : List (List UInt8)) (m : Nat) : (kp ls m).length ≤ m := by
  have := List.length_filter_le (kpB ls) (List.range m)
  rwa [List.length_range] at this
theorem kp_lt {ls : List (List UInt8)} {m j : Nat} (h : j ∈ kp ls m) : j < m := List.mem_range.1 (List.mem_filter.1 h).1
def cmpL (ls : List (List UInt8)) : List (List UInt8) := (kp ls ls.length).map fun j => ls.getD j []
/-- Bytes, one behind the other, that rise. -/
def Up (ls : List (List UInt8)) : Prop := ls.Pairwise fun a b => Lib.compareBytes a b ≤ 0
theorem cb_le_lt {a b c : List UInt8} (h1 : Lib.compareBytes a b ≤ 0) (h2 : Lib.compareBytes b c < 0) : Lib.compareBytes a c < 0 := by
  rcases Int.lt_or_eq_of_le h1 with h | h
  · exact cb_lt _ _ _ h h2
  · rw [cb_eq _ _ h]; exact h2
theorem cmpL_up {ls : List (List UInt8)} (u : Up ls) : (cmpL ls).Pairwise fun a b => Lib.compareBytes a b < 0 := by
  unfold cmpL
  rw [List.pairwise_map]
  unfold kp
  refine (List.Pairwise.filter _ (List.pairwise_lt_range (n := ls.length))).imp_of_mem fun {a b} ha hb hab => ?_
  obtain ⟨ha1, ha2⟩ := List.mem_filter.1 ha
  obtain ⟨hb1, hb2⟩ := List.mem_filter.1 hb
  rw [List.mem_range] at ha1 hb1
  have g : ∀ j (hj : j < ls.length), ls.getD j [] = ls[j] := fun j hj => by rw [List.getD_eq_getElem?_getD, List.getElem?_eq_getElem hj]; rfl
  unfold kpB at hb2
  rw [g b hb1, g (b - 1) (by omega)] at hb2
  have hne : ls[b] ≠ ls[b - 1] := by
    have : (b == 0) = false := by simp; omega
    rw [this] at hb2
    simpa using hb2
  rw [g a ha1, g b hb1]
  have h2 : Lib.compareBytes ls[b - 1] ls[b] ≤ 0 := List.pairwise_iff_getElem.1 u (b - 1) b (by omega) hb1 (by omega)
  have h2' : Lib.compareBytes ls[b - 1] ls[b] < 0 := by
    rcases Int.lt_or_eq_of_le h2 with h | h
    · exact h
    · exact absurd (cb_eq _ _ h).symm hne
  by_cases e : a = b - 1
  · subst e; exact h2'
  · exact cb_le_lt (List.pairwise_iff_getElem.1 u a (b - 1) ha1 (by omega) (by omega)) h2'
theorem cmpL_mem {ls : List (List UInt8)} {d : List UInt8} : d ∈ cmpL ls ↔ d ∈ ls := by
  have g : ∀ j (hj : j < ls.length), ls.getD j [] = ls[j] := fun j hj => by rw [List.getD_eq_getElem?_getD, List.getElem?_eq_getElem hj]; rfl
  unfold cmpL
  rw [List.mem_map]
  constructor
  · rintro ⟨j, hj, rfl⟩
    have := kp_lt hj
    rw [g j this]
    exact List.getElem_mem this
  · intro h
    obtain ⟨j, hj, rfl⟩ := List.mem_iff_getElem.1 h
    have key : ∀ j (hj : j < ls.length), ∃ a, a ∈ kp ls ls.length ∧ ls.getD a [] = ls[j] := by
      intro j
      induction j with
      | zero =>
        intro hj
        exact ⟨0, List.mem_filter.2 ⟨List.mem_range.2 hj, rfl⟩, g 0 hj⟩
      | succ j ih =>
        intro hj
        by_cases c : ls[j + 1] = ls[j]
        · obtain ⟨a, h1, h2⟩ := ih (by omega)
          exact ⟨a, h1, h2.trans c.symm⟩
        · refine ⟨j + 1, List.mem_filter.2 ⟨List.mem_range.2 hj, ?_⟩, g _ hj⟩
          unfold kpB
          rw [g _ hj, g (j + 1 - 1) (by omega)]
          simpa using c
    exact key j hj
/-- Slices of bytes in memory. -/
structure Bs (h : Hp) (D : Nat → Prop) (xs : List AVal) (ls : List (List UInt8)) : Prop where
  len : xs.length = ls.length
  at_ : ∀ (j : Nat) (hj : j < ls.length), ∃ x, xs[j]? = some x ∧ Bytes h x ls[j] ∧ ∀ i, ownId x = some i → D i
theorem Bs.nil (h : Hp) (D : Nat → Prop) : Bs h D [] [] := ⟨rfl, fun j hj => by simp at hj⟩
theorem Bs.mono {h h' : Hp} {D D' : Nat → Prop} {xs : List AVal} {ls : List (List UInt8)} (p : Bs h D xs ls) (hd : ∀ j, D j → D' j) (hk : ∀ j, D j → h' j = h j) : Bs h' D' xs ls :=
  ⟨p.len, fun j hj => by
    obtain ⟨x, e, b, d⟩ := p.at_ j hj
    exact ⟨x, e, b.keep fun i q => hk i (d i q), fun i q => hd i (d i q)⟩⟩
theorem Bs.snoc {h : Hp} {D : Nat → Prop} {xs : List AVal} {ls : List (List UInt8)} (p : Bs h D xs ls) {x : AVal} {l : List UInt8} (hb : Bytes h x l) (hd : ∀ i, ownId x = some i → D i) : Bs h D (xs ++ [x]) (ls ++ [l]) := by
  refine ⟨by simp [p.len], fun j hj => ?_⟩
  by_cases c : j < ls.length
  · obtain ⟨y, e, b, d⟩ := p.at_ j c
    refine ⟨y, ?_, ?_, d⟩
    · rw [List.getElem?_append_left (by rw [p.len]; exact c), e]
    · rw [List.getElem_append_left c]; exact b
  · have e : j = ls.length := by simp at hj; omega
    subst e
    refine ⟨x, ?_, ?_, hd⟩
    · rw [← p.len]; simp
    · simpa using hb
theorem Bs.kind {h : Hp} {D : Nat → Prop} {xs : List AVal} {ls : List (List UInt8)} (p : Bs h D xs ls) : xs.all oneCell = true := all_of fun j x hx => by
  have hj := (List.getElem?_eq_some_iff.1 hx).1
  obtain ⟨y, e, b, _⟩ := p.at_ j (by rw [← p.len]; exact hj)
  rw [hx] at e
  injection e with e
  rw [e]; exact b.kind.2.1
theorem Bs.sel {h : Hp} {D : Nat → Prop} {xs : List AVal} {ls : List (List UInt8)} (p : Bs h D xs ls) (js : List Nat) (hjs : ∀ j ∈ js, j < ls.length) : Bs h D (js.map fun j => xs.getD j .junk) (js.map fun j => ls.getD j []) := by
  refine ⟨by simp, fun k hk => ?_⟩
  rw [List.length_map] at hk
  have hj := hjs _ (List.getElem_mem hk)
  obtain ⟨x, e, b, d⟩ := p.at_ _ hj
  refine ⟨x, ?_, ?_, d⟩
  · rw [List.getElem?_map, List.getElem?_eq_getElem hk]
    simp [List.getD_eq_getElem?_getD, e]
  · simp [List.getD_eq_getElem?_getD, hj, b]
/-- A list of bytes in memory of its own. -/
def BL (h : Hp) (n0 n : Nat) (v : AVal) (ls : List (List UInt8)) : Prop := ∃ xs, Lst h 29 1 v ls.length xs ∧ Bs h (fun j => n0 ≤ j ∧ j < n ∧ ownId v ≠ some j) xs ls ∧ ∀ j, ownId v = some j → n0 ≤ j ∧ j < n
theorem BL.keep {h h' : Hp} {a b : Nat} {v : AVal} {ls : List (List UInt8)} (l : BL h a b v ls) (hk : ∀ j, a ≤ j → j < b → h' j = h j) : BL h' a b v ls := by
  obtain ⟨cells, c1, c2, c3⟩ := l
  exact ⟨cells, c1.keep fun j q => hk j (c3 j q).1 (c3 j q).2, c2.mono (fun j q => q) (fun j q => hk j q.1 q.2.1), c3⟩
theorem BL.old {h h' : Hp} {a b n : Nat} {v : AVal} {ls : List (List UInt8)} (l : BL h a b v ls) (hn : b ≤ n) (hk : Old h h' n) : BL h' a b v ls := l.keep fun j _ q => hk j (by omega)
theorem BL.len {h : Hp} {a b : Nat} {v : AVal} {ls : List (List UInt8)} (l : BL h a b v ls) {u : TypeId} {ts : List TypeId} (hu : und env u = M.pure (.slice 29)) : bLen env (u :: ts) v = M.pure (.int .i64 (ls.length : Nat)) := by
  obtain ⟨cells, c1, c2, c3⟩ := l
  exact c1.rds.bLen hu
theorem u81 : und env 81 = M.pure (.slice 29) := rfl
theorem z29 : sizeOf env 29 = M.pure 1 := rfl
theorem BL.idx {h : Hp} {a b : Nat} {v : AVal} {ls : List (List UInt8)} (l : BL h a b v ls) {i : Nat} (hi : i < ls.length) {h' : Hp} {n' : Nat} : Rd (indexAddr env 81 v (.int .i64 ((i : Nat) : Int))) h' n' [] (addrOf (i * 1) v) := by
  obtain ⟨cells, c1, c2, c3⟩ := l
  exact c1.rds.idx u81 z29 rfl hi
theorem BL.at_ {h : Hp} {a b : Nat} {v : AVal} {ls : List (List UInt8)} (l : BL h a b v ls) {i : Nat} (hi : i < ls.length) : ∃ x, (∀ n, Rd (load env 29 (addrOf (i * 1) v)) h n (rid v) x) ∧ Bytes h x ls[i] ∧ ∀ j, ownId x = some j → a ≤ j ∧ j < b := by
  obtain ⟨cells, c1, c2, c3⟩ := l
  obtain ⟨x, e, b, d⟩ := c2.at_ i hi
  exact ⟨x, fun n => c1.rds.load ti29 rfl (by rw [Nat.mul_one]; exact e), b, fun j q => ⟨(d j q).1, (d j q).2.1⟩⟩
/- slices.CompactFunc, gone through. -/
theorem kp_le2 (ls : List (List UInt8)) {a b : Nat} (h : a ≤ b) : (kp ls b).length ≤ (kp ls a).length + (b - a) := by
  obtain ⟨d, rfl⟩ := Nat.exists_eq_add_of_le h
  induction d with
  | zero => simp
  | succ d ih =>
    have := ih (by omega)
    rw [← Nat.add_assoc, kp_s]
    split
    · rw [List.length_append, List.length_singleton]; omega
    · omega
def fEq : AVal := .fn (.func 89) [] []
theorem loop91_1 (Q : Post0) (ks : List Kf) (id cnt i : Nat) (cap cS : Option Nat) (cells xs : List AVal) (ls : List (List UInt8)) (D : Nat → Prop) (h0 : Hp) (n : Nat) (hf0 : Free h0 n) (hidn : id < n)
    (hD : ¬ D id) (hcl : cnt ≤ cells.length) (hxs : cells.take cnt = xs) (hlen : ls.length = cnt) (bs : Bs h0 D xs ls) (hi : 1 ≤ i ∧ i < cnt) (hc : cnt ≤ 1000000) (hki : (kp ls (i + 1)).length = i)
    (hT : ∀ (h : Hp) (ys : List AVal) (z : AVal) (x4 x10 x15 x28 x35 x49 : AVal), h id = some (.row (.l ys) 29) → ys.length = cells.length → ys.take (kp ls cnt).length = (kp ls cnt).map (fun j => xs.getD j .junk) → (∀ j, j ≠ id → h j = h0 j) →
      Kont env 91 none Q ks (.exit 2) (.sl id 0 cnt cap 1 :: fEq :: AVal.junk :: AVal.junk :: x4 :: .int .i64 ((kp ls cnt).length : Nat) :: .sl id i (cnt - i) cS 1 :: z :: AVal.junk :: AVal.junk :: x10 :: AVal.junk :: AVal.junk :: AVal.junk :: AVal.junk :: x15 :: AVal.junk :: AVal.junk :: AVal.junk :: AVal.junk :: AVal.junk :: AVal.junk :: AVal.junk :: AVal.junk :: AVal.junk :: AVal.junk :: AVal.junk :: AVal.junk :: x28 :: AVal.junk :: AVal.junk :: AVal.junk :: AVal.junk :: AVal.junk :: AVal.junk :: x35 :: AVal.junk :: AVal.junk :: AVal.junk :: AVal.junk :: AVal.junk :: AVal.junk :: AVal.junk :: AVal.junk :: AVal.junk :: AVal.junk :: AVal.junk :: AVal.junk :: AVal.junk :: x49 :: AVal.junk :: AVal.junk :: AVal.junk :: AVal.junk :: AVal.junk :: AVal.junk :: AVal.junk :: AVal.junk :: AVal.junk :: AVal.junk :: AVal.junk :: AVal.junk :: AVal.junk :: AVal.junk :: AVal.junk :: AVal.junk :: []) h n) :
    ∀ (m k2 k : Nat) (h : Hp) (ys : List AVal) (x4 x10 x15 x28 x35 x49 : AVal), k2 + m = cnt - i → 1 ≤ k2 → k = (kp ls (i + k2)).length → h id = some (.row (.l ys) 29) → ys.length = cells.length → ys.take k = (kp ls (i + k2)).map (fun j => xs.getD j .junk) → (∀ j, k ≤ j → ys[j]? = cells[j]?) → (∀ j, j ≠ id → h j = h0 j) →
      Run env 91 none Q (.loop lp91_1) ks (.sl id 0 cnt cap 1 :: fEq :: AVal.junk :: AVal.junk :: x4 :: .int .i64 (k : Nat) :: .sl id i (cnt - i) cS 1 :: .int .i64 (k2 : Nat) :: AVal.junk :: AVal.junk :: x10 :: AVal.junk :: AVal.junk :: AVal.junk :: AVal.junk :: x15 :: AVal.junk :: AVal.junk :: AVal.junk :: AVal.junk :: AVal.junk :: AVal.junk :: AVal.junk :: AVal.junk :: AVal.junk :: AVal.junk :: AVal.junk :: AVal.junk :: x28 :: AVal.junk :: AVal.junk :: AVal.junk :: AVal.junk :: AVal.junk :: AVal.junk :: x35 :: AVal.junk :: AVal.junk :: AVal.junk :: AVal.junk :: AVal.junk :: AVal.junk :: AVal.junk :: AVal.junk :: AVal.junk :: AVal.junk :: AVal.junk :: AVal.junk :: AVal.junk :: x49 :: AVal.junk :: AVal.junk :: AVal.junk :: AVal.junk :: AVal.junk :: AVal.junk :: AVal.junk :: AVal.junk :: AVal.junk :: AVal.junk :: AVal.junk :: AVal.junk :: AVal.junk :: AVal.junk :: AVal.junk :: AVal.junk :: []) h n := by
  have b81 : ∀ (id off len : Nat) (cap : Option Nat), bLen env [81] (.sl id off len cap 1) = M.pure (.int .i64 (len : Nat)) := fun _ _ _ _ => rfl
  intro m
  induction m with
  | zero =>
    intro k2 k h ys x4 x10 x15 x28 x35 x49 hm h1 hk hh hyl htk hrest hold
    subst hk
    have e : i + k2 = cnt := by omega
    rw [run_loop]
    have hcc : ¬ (((k2 : Nat) : Int) < ((cnt - i : Nat) : Int)) := by omega
    simp only [lp91_1, loopsOf, Try.f91, Option.getD_some, core1, fgr, execOp, opd, opds, putT, put, nth, forgetL, doCall, builtin, one1, bor, binInt, shiftB, intOp, List.append_eq, List.cons_append, List.nil_append, List.append_nil, decide_true, decide_false, List.getD_cons_zero, List.getD_cons_succ, b81, hcc]
    rw [e] at htk ⊢
    exact hT h ys _ _ _ _ _ _ _ hh hyl htk hold
  | succ m ih =>
    intro k2 k h ys x4 x10 x15 x28 x35 x49 hm h1 hk hh hyl htk hrest hold
    have hcc : (((k2 : Nat) : Int) < ((cnt - i : Nat) : Int)) := by omega
    have hf : Free h n := fun j hj => by rw [hold j (by omega)]; exact hf0 j hj
    have hkl : (kp ls (i + k2)).length + 1 ≤ i + k2 := by
      have := kp_le2 ls (a := i + 1) (b := i + k2) (by omega)
      omega
    rw [← hk] at hkl
    have w1 : IntKind.i64.wrap (((k2 : Nat) : Int) - 1) = ((k2 - 1 : Nat) : Int) := by rw [w64 (by omega) (by omega)]; omega
    have w2 : IntKind.i64.wrap (((k2 : Nat) : Int) + 1) = ((k2 + 1 : Nat) : Int) := by rw [w64 (by omega) (by omega)]; omega
    have w3 : IntKind.i64.wrap (((k : Nat) : Int) + 1) = ((k + 1 : Nat) : Int) := by rw [w64 (by omega) (by omega)]; omega
    obtain ⟨x, ex, bx, dx⟩ := bs.at_ (i + k2) (by omega)
    obtain ⟨y, ey, byt, dy⟩ := bs.at_ (i + (k2 - 1)) (by omega)
    have cx : ys[i + k2 * 1]? = some x := by
      rw [Nat.mul_one, hrest _ (by omega), ← ex, ← hxs, List.getElem?_take, if_pos (by omega)]
    have cy : ys[i + (k2 - 1) * 1]? = some y := by
      rw [Nat.mul_one, hrest _ (by omega), ← ey, ← hxs, List.getElem?_take, if_pos (by omega)]
    have bx' : Bytes h x ls[i + k2] := bx.keep fun j q => hold j fun w => hD (w ▸ dx j q)
    have by' : Bytes h y ls[i + (k2 - 1)] := byt.keep fun j q => hold j fun w => hD (w ▸ dy j q)
    have kb : kpB ls (i + k2) = !(ls[i + k2] == ls[i + (k2 - 1)]) := by
      unfold kpB
      have e1 : (i + k2 == 0) = false := by simp; omega
      rw [e1, Bool.false_or, List.getD_eq_getElem?_getD, List.getD_eq_getElem?_getD, show i + k2 - 1 = i + (k2 - 1) by omega, List.getElem?_eq_getElem (show i + k2 < ls.length by omega), List.getElem?_eq_getElem (show i + (k2 - 1) < ls.length by omega)]
      rfl
    rw [run_loop]
    simp only [lp91_1, loopsOf, Try.f91, Option.getD_some, core1, fgr, execOp, opd, opds, putT, put, nth, forgetL, doCall, builtin, one1, bor, binInt, shiftB, intOp, List.append_eq, List.cons_append, List.nil_append, List.append_nil, decide_true, List.getD_cons_zero, List.getD_cons_succ, b81, hcc]
    refine run_draw.2 ⟨rfl, ?_⟩
    simp only [fe_cons, fev_pure, execOp, opd, putT, put, nth, Nat.reduceAdd, Nat.zero_add]
    rw [fev_rd (sl_idx (j := k2) u81 z29 rfl (by omega))]
    simp only [fe_cons, execOp, opd, putT, put, nth, Nat.reduceAdd]
    rw [fev_rd (cell_rd hh cx ti29 rfl)]
    simp only [fe_cons, fev_pure, execOp, opd, ofValue, putT, put, nth, bor, binInt, shiftB, intOp, wrapI, Nat.reduceAdd, decide_true, w1]
    rw [fev_rd (sl_idx (j := k2 - 1) u81 z29 rfl (by omega))]
    simp only [fe_cons, execOp, opd, putT, put, nth, Nat.reduceAdd]
    rw [fev_rd (cell_rd hh cy ti29 rfl)]
    simp only [fe_cons, hkr, execOp, opd, opds, putT, put, nth, doCall, callV_func, List.nil_append, List.append_nil, Nat.reduceAdd, fEq]
    refine fev_any hf (f89 x y ls[i + k2] ls[i + (k2 - 1)] h n bx' by') fun v6 h6 n6 r6 w6 hn6 f6 ⟨e6, e7, e8⟩ => ?_
    subst e6; subst e7; subst e8
    cases hq : (ls[i + k2] == ls[i + (k2 - 1)]) with
    | true =>
      rw [hq] at kb
      have e1 : kp ls (i + (k2 + 1)) = kp ls (i + k2) := by rw [← Nat.add_assoc, kp_s, kb]; rfl
      simp only [fe_nil, fe_cons, fev_pure, core1, fgr, execOp, opd, ofValue, putT, put, nth, forgetL, bor, binInt, shiftB, intOp, wrapI, unOp, Nat.reduceAdd, decide_true, Bool.not_true]
      refine ⟨(by (try simp (disch := first | assumption | omega) only [fine, List.all_cons, List.all_nil, clash_pl, clash_pr, clash_rr, Bool.not_false, Bool.true_or, Bool.and_true, Bool.true_and]); repeat' (first | rfl | exact (Bool.or_eq_true _ _).mpr (.inr rfl) | refine (Bool.and_eq_true _ _).mpr ⟨?_, ?_⟩)), ?_⟩
      simp only [w2]
      exact ih (k2 + 1) k h6 ys _ _ _ _ _ _ (by omega) (by omega) (by rw [e1, ← hk]) hh hyl (by rw [e1]; exact htk) hrest hold
    | false =>
      rw [hq] at kb
      have e1 : kp ls (i + (k2 + 1)) = kp ls (i + k2) ++ [i + k2] := by rw [← Nat.add_assoc, kp_s, kb]; rfl
      have hkc : k < ys.length := by omega
      simp only [fe_nil, fe_cons, fev_pure, core1, fgr, execOp, opd, putT, put, nth, forgetL, unOp, Nat.reduceAdd, Bool.not_false]
      refine ⟨(by (try simp (disch := first | assumption | omega) only [fine, List.all_cons, List.all_nil, clash_pl, clash_pr, clash_rr, Bool.not_false, Bool.true_or, Bool.and_true, Bool.true_and]); repeat' (first | rfl | exact (Bool.or_eq_true _ _).mpr (.inr rfl) | refine (Bool.and_eq_true _ _).mpr ⟨?_, ?_⟩)), ?_⟩
      rw [opv_rd (sl_idx (j := k2) u81 z29 rfl (by omega))]
      simp only [core1, execOp, opd, putT, put, nth]
      rw [opv_rd (cell_rd hh cx ti29 rfl)]
      simp only [core1, execOp, opd, putT, put, nth]
      rw [opv_rd (sl_idx (j := k) u81 z29 rfl (by omega))]
      simp only [core1, execOp, opd, putT, put, nth, Nat.zero_add]
      have kx := bx.kind
      rw [opv_wr (Row.write (v := x) hh ti29 (by rw [kx.1]; rfl) (by show k * 1 + 1 ≤ ys.length; omega) (by rw [kx.1]; simp [kx.2.1]))]
      rw [kx.1]
      simp only [core1, fgr, execOp, opd, ofValue, putT, put, nth, forgetL, bor, binInt, shiftB, intOp, wrapI, decide_true, w2, w3]
      have hsl : (splice ys (k * 1) [x]).length = ys.length := splice_len (by rw [List.length_singleton]; omega)
      refine ih (k2 + 1) (k + 1) (upd h6 id (some (.row (.l (splice ys (k * 1) [x])) 29))) (splice ys (k * 1) [x]) _ _ _ _ _ _ (by omega) (by omega) (by rw [e1, List.length_append, ← hk]; rfl) (upd_same _ _ _) (by rw [hsl, hyl]) ?_ (fun j hj => ?_) (fun j hj => by rw [upd_ne _ _ hj]; exact hold j hj)
      · rw [e1, List.map_append, Nat.mul_one]
        have t := take_splice (xs := ys) (ys := [x]) (a := k) (by rw [List.length_singleton]; omega)
        rw [List.length_singleton] at t
        rw [t, htk]
        congr 1
        simp [List.getD_eq_getElem?_getD, ex]
      · rw [spq_get (by rw [List.length_singleton]; omega), if_neg (by rw [List.length_singleton]; omega)]
        exact hrest j (by omega)
theorem clr81 {id off len : Nat} {cap : Option Nat} {ys : List AVal} {h : Hp} {n : Nat} (hh : h id = some (.row (.l ys) 29)) (hl : off + len ≤ ys.length) :
    Wp (bClear env [81] (.sl id off len cap 1)) h n fun v' h' n' => n' = n ∧ (∃ zs, h' id = some (.row (.l zs) 29) ∧ zs.length = ys.length ∧ zs.take off = ys.take off) ∧ ∀ j, j ≠ id → h' j = h j := by
  simp only [bClear, u81, bind_pure, wp_ask]
  by_cases c : len = 0
  · subst c
    rw [Nat.beq_refl]
    exact wp_pure.2 ⟨rfl, ⟨ys, hh, rfl, rfl⟩, fun j _ => rfl⟩
  · have e0 : len.beq 0 = false := beq_of c
    have hr : (reps [AVal.nils] len).length = len := by rw [repq_len]; simp
    have hb : (off + (reps [AVal.nils] len).length).ble ys.length = true := ble_of (by rw [hr]; omega)
    have h1 : (reps [AVal.nils] len).all oneCell = true := reps_one rfl len
    simp only [e0, ti29, bind_pure, sameSz, AVal.cells, writeCells, bind_assoc, wp_get, hh, Option.some.injEq, exists_eq_left', rowK, wp_ob, Cont.size, hb, h1, true_and, wp_set, wp_pure]
    rw [setAll_l _ _ _ (by rw [hr]; omega)]
    refine ⟨by simp, ⟨_, upd_same _ _ _, splice_len (by rw [hr]; omega), ?_⟩, fun j hj => upd_ne _ _ hj⟩
    unfold splice
    rw [List.take_append_of_le_length (by rw [List.length_take]; omega), List.take_take, Nat.min_self]
theorem all_kept {ls : List (List UInt8)} (h : kp ls ls.length = List.range ls.length) : cmpL ls = ls := by
  unfold cmpL
  rw [h]
  refine List.ext_getElem (by simp) fun i h1 h2 => ?_
  simp [List.getD_eq_getElem?_getD, h2]
def capO (cap : Option Nat) (i : Nat) : Option Nat := cap.map (· - i)
theorem sub_o (id i cnt : Nat) (cap : Option Nat) : subOf i cnt (AVal.sl id 0 cnt cap 1) = .sl id i (cnt - i) (capO cap i) 1 := by
  cases cap <;> simp [subOf, capO]
theorem loop91_0 (Q : Post0) (ks : List Kf) (id : Nat) (cap : Option Nat) (cells xs : List AVal) (ls : List (List UInt8)) (n0 : Nat) (h : Hp) (n : Nat) (hv : BL h n0 n (.sl id 0 ls.length cap 1) ls) (hc : ls.length ≤ 1000000) (hf : Free h n)
    (c1 : Lst h 29 1 (.sl id 0 ls.length cap 1) ls.length xs) (c2 : Bs h (fun j => n0 ≤ j ∧ j < n ∧ ownId (.sl id 0 ls.length cap 1) ≠ some j) xs ls) (c3 : ∀ j, ownId (.sl id 0 ls.length cap 1) = some j → n0 ≤ j ∧ j < n)
    (hh : h id = some (.row (.l cells) 29)) (hl : ls.length ≤ cells.length) (hcap' : ∀ k, cap = some k → ls.length ≤ k ∧ k ≤ cells.length) (hx : cells.take ls.length = xs) (hid : n0 ≤ id ∧ id < n) (h2 : 2 ≤ ls.length)
    (hT1 : ∀ (x4 x6 x7 x10 x15 x28 x35 x49 : AVal), BL h n0 n (.sl id 0 ls.length cap 1) (cmpL ls) → Kont env 91 none Q ks (.exit 0) (.sl id 0 ls.length cap 1 :: fEq :: AVal.junk :: AVal.junk :: x4 :: .int .i64 (ls.length : Nat) :: x6 :: x7 :: AVal.junk :: AVal.junk :: x10 :: AVal.junk :: AVal.junk :: AVal.junk :: AVal.junk :: x15 :: AVal.junk :: AVal.junk :: AVal.junk :: AVal.junk :: AVal.junk :: AVal.junk :: AVal.junk :: AVal.junk :: AVal.junk :: AVal.junk :: AVal.junk :: AVal.junk :: x28 :: AVal.junk :: AVal.junk :: AVal.junk :: AVal.junk :: AVal.junk :: AVal.junk :: x35 :: AVal.junk :: AVal.junk :: AVal.junk :: AVal.junk :: AVal.junk :: AVal.junk :: AVal.junk :: AVal.junk :: AVal.junk :: AVal.junk :: AVal.junk :: AVal.junk :: AVal.junk :: x49 :: AVal.junk :: AVal.junk :: AVal.junk :: AVal.junk :: AVal.junk :: AVal.junk :: AVal.junk :: AVal.junk :: AVal.junk :: AVal.junk :: AVal.junk :: AVal.junk :: AVal.junk :: AVal.junk :: AVal.junk :: AVal.junk :: []) h n)
    (hT2 : ∀ (h' : Hp) (v' : AVal) (x5 x6 x7 x10 x15 x28 x35 x49 : AVal), BL h' n0 n v' (cmpL ls) → (∀ j, j ≠ id → h' j = h j) → Kont env 91 none Q ks .ret (.sl id 0 ls.length cap 1 :: fEq :: AVal.junk :: AVal.junk :: v' :: x5 :: x6 :: x7 :: AVal.junk :: AVal.junk :: x10 :: AVal.junk :: AVal.junk :: AVal.junk :: AVal.junk :: x15 :: AVal.junk :: AVal.junk :: AVal.junk :: AVal.junk :: AVal.junk :: AVal.junk :: AVal.junk :: AVal.junk :: AVal.junk :: AVal.junk :: AVal.junk :: AVal.junk :: x28 :: AVal.junk :: AVal.junk :: AVal.junk :: AVal.junk :: AVal.junk :: AVal.junk :: x35 :: AVal.junk :: AVal.junk :: AVal.junk :: AVal.junk :: AVal.junk :: AVal.junk :: AVal.junk :: AVal.junk :: AVal.junk :: AVal.junk :: AVal.junk :: AVal.junk :: AVal.junk :: x49 :: AVal.junk :: AVal.junk :: AVal.junk :: AVal.junk :: AVal.junk :: AVal.junk :: AVal.junk :: AVal.junk :: AVal.junk :: AVal.junk :: AVal.junk :: AVal.junk :: AVal.junk :: AVal.junk :: AVal.junk :: AVal.junk :: []) h' n) :
    ∀ (m i : Nat) (x4 x6 x7 x10 x15 x28 x35 x49 : AVal), i + m = ls.length → 1 ≤ i → kp ls i = List.range i → Run env 91 none Q (.loop lp91_0) ks (.sl id 0 ls.length cap 1 :: fEq :: AVal.junk :: AVal.junk :: x4 :: .int .i64 (i : Nat) :: x6 :: x7 :: AVal.junk :: AVal.junk :: x10 :: AVal.junk :: AVal.junk :: AVal.junk :: AVal.junk :: x15 :: AVal.junk :: AVal.junk :: AVal.junk :: AVal.junk :: AVal.junk :: AVal.junk :: AVal.junk :: AVal.junk :: AVal.junk :: AVal.junk :: AVal.junk :: AVal.junk :: x28 :: AVal.junk :: AVal.junk :: AVal.junk :: AVal.junk :: AVal.junk :: AVal.junk :: x35 :: AVal.junk :: AVal.junk :: AVal.junk :: AVal.junk :: AVal.junk :: AVal.junk :: AVal.junk :: AVal.junk :: AVal.junk :: AVal.junk :: AVal.junk :: AVal.junk :: AVal.junk :: x49 :: AVal.junk :: AVal.junk :: AVal.junk :: AVal.junk :: AVal.junk :: AVal.junk :: AVal.junk :: AVal.junk :: AVal.junk :: AVal.junk :: AVal.junk :: AVal.junk :: AVal.junk :: AVal.junk :: AVal.junk :: AVal.junk :: []) h n := by
  have bs : Bs h (fun j => n0 ≤ j ∧ j < n ∧ id ≠ j) xs ls := c2.mono (fun j q => ⟨q.1, q.2.1, fun w => q.2.2 (by rw [w]; rfl)⟩) (fun j q => rfl)
  intro m
  induction m with
  | zero =>
    intro i x4 x6 x7 x10 x15 x28 x35 x49 hm h1 hk
    have : i = ls.length := by omega
    subst this
    have hcc : ¬ (((ls.length : Nat) : Int) < ((ls.length : Nat) : Int)) := by omega
    rw [run_loop]
    simp only [lp91_0, loopsOf, Try.f91, Option.getD_some, core1, fgr, execOp, opd, opds, putT, put, nth, forgetL, doCall, builtin, one1, bor, binInt, shiftB, intOp, List.append_eq, List.cons_append, List.nil_append, List.append_nil, decide_true, decide_false, List.getD_cons_zero, hv.len u81, hcc]
    exact hT1 _ _ _ _ _ _ _ _ (by rw [all_kept hk]; exact hv)
  | succ m ih =>
    intro i x4 x6 x7 x10 x15 x28 x35 x49 hm h1 hk
    have hcc : (((i : Nat) : Int) < ((ls.length : Nat) : Int)) := by omega
    have w1 : IntKind.i64.wrap (((i : Nat) : Int) - 1) = ((i - 1 : Nat) : Int) := by rw [w64 (by omega) (by omega)]; omega
    have w2 : IntKind.i64.wrap (((i : Nat) : Int) + 1) = ((i + 1 : Nat) : Int) := by rw [w64 (by omega) (by omega)]; omega
    obtain ⟨x, ex, bx, dx⟩ := bs.at_ i (by omega)
    obtain ⟨y, ey, byt, dy⟩ := bs.at_ (i - 1) (by omega)
    have cx : cells[i * 1]? = some x := by
      rw [Nat.mul_one, ← ex, ← hx, List.getElem?_take, if_pos (by omega)]
    have cy : cells[(i - 1) * 1]? = some y := by
      rw [Nat.mul_one, ← ey, ← hx, List.getElem?_take, if_pos (by omega)]
    have kb : kpB ls i = !(ls[i] == ls[i - 1]) := by
      unfold kpB
      have e1 : (i == 0) = false := by simp; omega
      rw [e1, Bool.false_or, List.getD_eq_getElem?_getD, List.getD_eq_getElem?_getD, List.getElem?_eq_getElem (show i < ls.length by omega), List.getElem?_eq_getElem (show i - 1 < ls.length by omega)]
      rfl
    rw [run_loop]
    simp only [lp91_0, loopsOf, Try.f91, Option.getD_some, core1, fgr, execOp, opd, opds, putT, put, nth, forgetL, doCall, builtin, one1, bor, binInt, shiftB, intOp, List.append_eq, List.cons_append, List.nil_append, List.append_nil, decide_true, List.getD_cons_zero, hv.len u81, hcc]
    refine run_draw.2 ⟨rfl, ?_⟩
    simp only [fe_cons, fev_pure, execOp, opd, putT, put, nth, Nat.reduceAdd, Nat.zero_add]
    rw [fev_rd (sl_idx (j := i) u81 z29 rfl (by omega))]
    simp only [fe_cons, execOp, opd, putT, put, nth, Nat.reduceAdd, Nat.zero_add]
    rw [fev_rd (cell_rd hh cx ti29 rfl)]
    simp only [fe_cons, fev_pure, execOp, opd, ofValue, putT, put, nth, bor, binInt, shiftB, intOp, wrapI, Nat.reduceAdd, decide_true, w1]
    rw [fev_rd (sl_idx (j := i - 1) u81 z29 rfl (by omega))]
    simp only [fe_cons, execOp, opd, putT, put, nth, Nat.reduceAdd, Nat.zero_add]
    rw [fev_rd (cell_rd hh cy ti29 rfl)]
    simp only [fe_cons, hkr, execOp, opd, opds, putT, put, nth, doCall, callV_func, List.nil_append, List.append_nil, Nat.reduceAdd, fEq]
    refine fev_any hf (f89 x y ls[i] ls[i - 1] h n bx byt) fun v6 h6 n6 r6 w6 hn6 f6 ⟨e6, e7, e8⟩ => ?_
    subst e6; subst e7; subst e8
    cases hq : (ls[i] == ls[i - 1]) with
    | false =>
      rw [hq] at kb
      simp only [fe_nil, core1, fgr, execOp, opd, ofValue, putT, put, nth, forgetL, bor, binInt, shiftB, intOp, wrapI, Nat.reduceAdd, decide_true]
      refine ⟨(by (try simp (disch := first | assumption | omega) only [fine, List.all_cons, List.all_nil, clash_pl, clash_pr, clash_rr, Bool.not_false, Bool.true_or, Bool.and_true, Bool.true_and]); repeat' (first | rfl | exact (Bool.or_eq_true _ _).mpr (.inr rfl) | refine (Bool.and_eq_true _ _).mpr ⟨?_, ?_⟩)), ?_⟩
      simp only [w2]
      exact ih (i + 1) _ _ _ _ _ _ _ _ (by omega) (by omega) (by rw [kp_s, kb, hk, List.range_succ]; rfl)
    | true =>
      rw [hq] at kb
      have hk1 : kp ls (i + 1) = kp ls i := by rw [kp_s, kb]; rfl
      have hlst : Lst h6 29 1 (.sl id 0 ls.length cap 1) ls.length xs := c1
      simp only [fe_nil, core1, fgr, execOp, opd, opt, putT, put, nth, forgetL, Nat.reduceAdd]
      refine ⟨(by (try simp (disch := first | assumption | omega) only [fine, List.all_cons, List.all_nil, clash_pl, clash_pr, clash_rr, Bool.not_false, Bool.true_or, Bool.and_true, Bool.true_and]); repeat' (first | rfl | exact (Bool.or_eq_true _ _).mpr (.inr rfl) | refine (Bool.and_eq_true _ _).mpr ⟨?_, ?_⟩)), ?_⟩
      rw [opv_rd (hlst.rds.tail_rd (lo := i) u81 z29 rfl (by omega))]
      rw [sub_o]
      generalize capO cap i = cS
      simp only [core1, fgr, execOp, opd, ofValue, putT, put, nth, forgetL]
      refine loop91_1 _ _ id ls.length i cap cS cells xs ls _ h6 n6 hf hid.2 (fun q => q.2.2 rfl) hl hx rfl bs (by omega) hc (by rw [hk1, hk, List.length_range]) ?_ (ls.length - i - 1) 1 i h6 cells _ _ _ _ _ _ (by omega) (Nat.le_refl _) (by rw [hk1, hk, List.length_range]) hh rfl ?_ (fun j _ => rfl) (fun j _ => rfl)
      rotate_left
      · rw [hk1, hk, ← hx]
        refine List.ext_getElem (by simp; omega) fun a ha1 ha2 => ?_
        simp only [List.length_map, List.length_range] at ha2
        simp [List.getD_eq_getElem?_getD, List.getElem?_take, show a < ls.length by omega, show a < cells.length by omega]
      intro h7 ys z x4 x10 x15 x28 x35 x49 hh7 hyl htk hold
      have f7 : Free h7 n6 := fun j hj => by rw [hold j (by omega)]; exact hf j hj
      have hkl : (kp ls ls.length).length ≤ ls.length := kp_le ls _
      obtain ⟨k, hkk⟩ : ∃ k, k = (kp ls ls.length).length := ⟨_, rfl⟩
      rw [← hkk] at hkl htk ⊢
      have hl7 : Lst h7 29 1 (.sl id 0 ls.length cap 1) ls.length (ys.take (ls.length * 1)) := .sl id ls.length cap ys _ hh7 (by omega) (fun k q => by have := hcap' k q; omega) rfl
      simp only [core1, execOp, opd, opt, putT, put, nth]
      rw [opv_rd (hl7.rds.tail_rd (lo := k) u81 z29 rfl hkl)]
      rw [sub_o]
      simp only [core1, execOp, opd, opds, putT, put, nth, doCall, builtin, one1]
      refine opv_callf f7 (clr81 hh7 (by omega)) fun v8 h8 n8 hn8 f8 ⟨e8, ⟨zs, hh8, hzl, hzt⟩, o8⟩ => ?_
      subst e8
      simp only [core1, fgr, execOp, opd, opt, putT, put, nth, forgetL]
      have hl8 : Lst h8 29 1 (.sl id 0 ls.length cap 1) ls.length (zs.take (ls.length * 1)) := .sl id ls.length cap zs _ hh8 (by omega) (fun k q => by have := hcap' k q; omega) rfl
      rw [opv_rd (hl8.rds.head_rd hl8.roomy (hi := k) u81 z29 rfl hkl)]
      simp only [core1, fgr, execOp, opd, putT, put, nth, forgetL]
      have hpre := hl8.pre (hi := k) hkl
      rw [Nat.mul_one, Nat.mul_one, List.take_take, Nat.min_eq_left hkl, hzt, htk] at hpre
      have hcl : (cmpL ls).length = k := by unfold cmpL; rw [List.length_map, hkk]
      refine hT2 h8 _ _ _ _ _ _ _ _ _ ⟨_, by rw [hcl]; exact hpre, ?_, fun j q => by rw [sub_id] at q; exact c3 j q⟩ (fun j q => by rw [o8 j q, hold j q])
      refine ((bs.sel (kp ls ls.length) fun j hj => kp_lt hj).mono (fun j q => ⟨q.1, q.2.1, fun w => q.2.2 (by rw [sub_id] at w; injection w)⟩) (fun j q => ?_))
      rw [o8 j (Ne.symm q.2.2), hold j (Ne.symm q.2.2)]
theorem f91 (v : AVal) (ls : List (List UInt8)) (n0 : Nat) (h : Hp) (n : Nat) (hv : BL h n0 n v ls) (hc : ls.length ≤ 1000000) (hf : Free h n) :
    Wp (callI env (evalW env) 91 [v, fEq]) h n fun v' h' n' => n' = n ∧ BL h' n0 n v' (cmpL ls) ∧ ∀ j, ownId v ≠ some j → h' j = h j := by
  have hv0 := hv
  obtain ⟨xs, c1, c2, c3⟩ := hv0
  refine wp_callI ff91 fi91 ?_
  by_cases c : ls.length < 2
  · have cc : (((ls.length : Nat) : Int) < 2) := by omega
    have e : cmpL ls = ls := by
      rcases ls with _ | ⟨a, _ | ⟨b, l⟩⟩
      · rfl
      · rfl
      · simp at c; omega
    simp only [fu91, Try.f91, Option.getD_some, List.replicate, core1, fgr, execOp, opd, opds, ofValue, putT, put, nth, forgetL, doCall, builtin, one1, bor, binInt, shiftB, intOp, ended, resultOf, oneOrTup, List.append_eq, List.cons_append, List.nil_append, List.length_cons, List.length_nil, Nat.reduceAdd, Nat.reduceSub, decide_true, true_and, Nat.zero_add, wp_pure, hv.len u81, cc]
    rw [e]
    exact ⟨hv, fun j _ => trivial⟩
  have cc : ¬ (((ls.length : Nat) : Int) < 2) := by omega
  obtain ⟨id, cap, cells, e, hh, hl, hcap, hx⟩ := c1.inv (by omega)
  subst e
  rw [Nat.mul_one] at hl hx
  have hid := c3 id rfl
  have hcap' : ∀ k, cap = some k → ls.length ≤ k ∧ k ≤ cells.length := fun k q => by have := hcap k q; omega
  simp only [fu91, Try.f91, Option.getD_some, List.replicate, core1, fgr, execOp, opd, opds, ofValue, putT, put, nth, forgetL, doCall, builtin, one1, bor, binInt, shiftB, intOp, ended, resultOf, oneOrTup, List.append_eq, List.cons_append, List.nil_append, List.length_cons, List.length_nil, Nat.reduceAdd, Nat.reduceSub, decide_true, decide_false, Nat.zero_add, wp_pure, hv.len u81, cc]
  refine loop91_0 _ _ id cap cells xs ls n0 h n hv hc hf c1 c2 c3 hh hl hcap' hx hid (by omega) ?_ ?_ (ls.length - 1) 1 _ _ _ _ _ _ _ _ (by omega) (Nat.le_refl _) rfl
  · intro x4 x6 x7 x10 x15 x28 x35 x49 hb
    simp only [core1, fgr, execOp, opd, putT, put, nth, forgetL, true_and]
    exact ⟨hb, fun j _ => trivial⟩
  · intro h' v' x5 x6 x7 x10 x15 x28 x35 x49 hb ho
    simp only [core1, nth, true_and]
    exact ⟨hb, fun j q => ho j fun w => q (by rw [w]; rfl)⟩
/- The scripts at a height. -/
theorem bs81 {s : AVal} (hs : s.cells = [s] ∧ oneCell s = true ∧ isJunk s = false) : buildSlice env 81 1 [(0, s)] = (newRow env 29 [s]).bind fun id => M.pure (.sl id 0 1 (some 1) 1) := by
  have e1 : fill (fun k => some (k * 1, 1)) (reps ty29.i.zero.cells 1) [(0, s)] = some [s] := by
    have : reps ty29.i.zero.cells 1 = [] ++ [AVal.nils] ++ [] := rfl
    rw [this, fill_at (off := 0) (sz := 1) rfl rfl rfl (by rw [hs.1]; rfl) hs.2.2, hs.1]
    rfl
  have e2 : buildSlice env 81 1 [(0, s)] = (getO "buildSlice" (fill (fun k => some (k * 1, 1)) (reps ty29.i.zero.cells 1) [(0, s)])).bind fun cs => (newRow env 29 cs).bind fun id => M.pure (.sl id 0 1 (some 1) 1) := rfl
  rw [e2, e1]
  rfl
def scr (z : Int) (vs : List Ver) : List (List UInt8) := (vs.filter fun v => there v z).map Ver.script
theorem scr_s {vs : List Ver} {i : Nat} (hi : i < vs.length) (z : Int) : scr z (vs.take (i + 1)) = if there vs[i] z then scr z (vs.take i) ++ [vs[i].script] else scr z (vs.take i) := by
  unfold scr
  rw [take_snoc hi, List.filter_append]
  by_cases c : there vs[i] z = true
  · rw [if_pos c]; simp [c]
  · rw [if_neg c]; simp [c]
theorem scr_le (z : Int) (vs : List Ver) : (scr z vs).length ≤ vs.length := by
  unfold scr
  rw [List.length_map]
  exact List.length_filter_le _ _
theorem loop44 (Q : Post0) (ks : List Kf) (v : AVal) (z : Int) (cnt : Nat) (xs : List AVal) (vs : List Ver) (D : Nat → Prop) (h0 : Hp) (n0 : Nat) (hc : cnt ≤ 1000000) (hv : Rds h0 1 v cnt xs) (hvn : ∀ j, ownId v = some j → j < n0) (hp : Ps h0 D xs vs) (hD : ∀ j, D j → j < n0) (hsl : ∀ v ∈ vs, v.script.length ≤ 1000000)
    (hT : ∀ (h : Hp) (n : Nat) (acc : AVal) (x0 x4 x7 x9 x18 x25 : AVal), BL h n0 n acc (scr z vs) → n0 ≤ n → Free h n → Old h0 h n0 →
      Kont env 44 none Q ks (.exit 0) (x0 :: .int .i64 z :: AVal.junk :: AVal.junk :: x4 :: acc :: AVal.junk :: x7 :: AVal.junk :: x9 :: AVal.junk :: AVal.junk :: AVal.junk :: AVal.junk :: AVal.junk :: v :: .int .i64 (cnt : Nat) :: .int .i64 (cnt : Nat) :: x18 :: AVal.junk :: AVal.junk :: AVal.junk :: AVal.junk :: AVal.junk :: AVal.junk :: x25 :: AVal.junk :: AVal.junk :: AVal.junk :: AVal.junk :: AVal.junk :: AVal.junk :: AVal.junk :: AVal.junk :: AVal.junk :: AVal.junk :: AVal.junk :: []) h n) :
    ∀ (m i : Nat) (h : Hp) (n : Nat) (acc : AVal) (x0 x4 x7 x9 x18 x25 : AVal), i + m = cnt → BL h n0 n acc (scr z (vs.take i)) → n0 ≤ n → Free h n → Old h0 h n0 →
      Run env 44 none Q (.loop lp44_0) ks (x0 :: .int .i64 z :: AVal.junk :: AVal.junk :: x4 :: acc :: AVal.junk :: x7 :: AVal.junk :: x9 :: AVal.junk :: AVal.junk :: AVal.junk :: AVal.junk :: AVal.junk :: v :: .int .i64 (cnt : Nat) :: .int .i64 (i : Nat) :: x18 :: AVal.junk :: AVal.junk :: AVal.junk :: AVal.junk :: AVal.junk :: AVal.junk :: x25 :: AVal.junk :: AVal.junk :: AVal.junk :: AVal.junk :: AVal.junk :: AVal.junk :: AVal.junk :: AVal.junk :: AVal.junk :: AVal.junk :: AVal.junk :: []) h n := by
  have hcl : cnt = vs.length := by have := hv.length; have := hp.len; omega
  intro m
  induction m with
  | zero =>
    intro i h n acc x0 x4 x7 x9 x18 x25 hm ha hn hf ho
    have : i = cnt := by omega
    subst this
    rw [run_loop]
    have hcc : ¬ (((i : Nat) : Int) < ((i : Nat) : Int)) := by omega
    simp only [lp44_0, loopsOf, Try.f44, Option.getD_some, core1, fgr, execOp, opd, putT, put, nth, forgetL, bor, binInt, shiftB, intOp, List.nil_append, List.append_nil, decide_true, decide_false, List.getD_cons_zero, hcc]
    rw [hcl, List.take_length] at ha
    exact hT h n acc _ _ _ _ _ _ ha hn hf ho
  | succ m ih =>
    intro i h n acc x0 x4 x7 x9 x18 x25 hm ha hn hf ho
    rw [run_loop]
    have hil : i < cnt := by omega
    have hcc : (((i : Nat) : Int) < ((cnt : Nat) : Int)) := by omega
    have hv' := hv.keep (h' := h) (fun j hj => ho j (hvn j hj))
    have hp' := hp.mono (D' := D) (fun _ q => q) (fun j hj => ho j (hD j hj))
    obtain ⟨id, sv, hx, a, d1, d2⟩ := hp'.get (j := i) (by omega)
    have hidx := hv'.idx (E := env) u95 z128 (kk := .i64) (z := ((i : Nat) : Int)) (j := i) rfl hil (h' := h) (n' := n)
    have hld := hv'.load (E := env) ti128 rfl (k := i * 1) (n := n) (by rw [Nat.mul_one]; exact hx)
    have w1 : IntKind.i64.wrap (((i : Nat) : Int) + 1) = ((i + 1 : Nat) : Int) := by rw [w64 (by omega) (by omega)]; omega
    have hss := scr_s (vs := vs) (i := i) (by omega) z
    have hwv := hsl _ (List.getElem_mem (show i < vs.length by omega))
    generalize vs[i]'(by omega) = w at *
    have atn : AtN h n id sv w := ⟨a, by have := hD _ d1; omega, fun q hq => by have := hD _ (d2 q hq); omega⟩
    simp only [lp44_0, loopsOf, Try.f44, Option.getD_some, core1, fgr, execOp, opd, putT, put, nth, forgetL, bor, binInt, shiftB, intOp, List.nil_append, List.append_nil, decide_true, List.getD_cons_zero, hcc]
    rw [opv_rd hidx]
    simp only [core1, execOp, opd, putT, put, nth]
    rw [opv_rd hld]
    simp only [core1, fgr, execOp, opd, putT, put, nth, forgetL, nilCheck]
    rw [opv_rd (row_all a.row a.ok)]
    simp only [core1, hkr, execOp, opd, opds, putT, put, nth, doCall, callV_func, List.nil_append, List.append_nil]
    refine opv_callf hf (f82 w sv a.ok z h n hf) fun v1 h1 n1 hn1 f1 ⟨e1, o1⟩ => ?_
    subst e1
    have ho1 : Old h0 h1 n0 := fun q hq => (o1 q (by omega)).trans (ho q hq)
    have ha1 := ha.old (Nat.le_refl _) o1
    have at1 := atn.old hn1 o1
    cases hq : there w z with
    | false =>
      rw [hq] at hss
      simp only [core1, fgr, execOp, opd, ofValue, putT, put, nth, forgetL, bor, binInt, shiftB, intOp, wrapI, decide_true, w1]
      obtain ⟨cells, c1, c2, c3⟩ := ha1
      exact ih (i + 1) h1 n1 acc _ _ _ _ _ _ (by omega) ⟨cells, by rw [hss]; exact c1, by rw [hss]; exact c2.mono (fun j q => ⟨q.1, by omega, q.2.2⟩) (fun j q => rfl), fun j q => by have := c3 j q; omega⟩ (by omega) f1 ho1
    | true =>
      rw [hq] at hss
      obtain ⟨cells, c1, c2, c3⟩ := ha1
      simp only [core1, tyr, fgr, execOp, opd, putT, put, nth, forgetL, und, sizeOf, nilCheck, getO, moved, fieldAddr, List.getElem?_cons_succ, List.getElem?_cons_zero, Nat.zero_add]
      rw [opv_rd (row_script at1.row at1.ok)]
      simp only [core1, hkr, execOp, opd, opds, putT, put, nth, doCall, callV_func, List.nil_append, List.append_nil]
      refine opv_callf f1 (f90 sv w.script h1 n1 at1.s hwv f1) fun v2 h2 n2 hn2 f2 ⟨b2, i2, o2⟩ => ?_
      have c1' := c1.keep (h' := h2) fun j q => o2 j (by have := c3 j q; omega)
      simp only [core1, execOp, opd, ops2, putT, put, nth, bs81 b2.kind]
      refine opv_row ti29 f2 (f := fun id => AVal.sl id 0 1 (some 1) 1) fun H3 r3 o3 f3 => ?_
      have c1'' := c1'.keep (h' := H3) fun j q => o3 j (by have := c3 j q; omega)
      have hlen : (scr z (vs.take i)).length ≤ 1000000 := by
        have h1 := scr_le z (vs.take i)
        have h2 : (vs.take i).length ≤ vs.length := by rw [List.length_take]; omega
        omega
      have k2 := b2.kind
      simp only [core1, execOp, opd, opds, putT, put, nth, doCall, builtin, two2]
      refine opv_lst_append (i := ty29.i) (e := 29) c1'' (row_rds (cnt := 1) r3 rfl) u81 u81 ti29 (by simp [k2.2.1]) (by decide) (by show 2 * (_ + 1) * 24 ≤ _; omega) (by omega) f3 ?_
      intro acc' h4 n4 hn4 f4 l4 i4 o4
      simp only [core1, fgr, execOp, opd, ofValue, putT, put, nth, forgetL, bor, binInt, shiftB, intOp, wrapI, decide_true, w1]
      have an2 : ∀ j, n1 ≤ j → ownId acc ≠ some j := fun j hj q => by have := c3 j q; omega
      have i4' : ∀ j, ownId acc' = some j → n0 ≤ j := fun j q => by
        rcases i4 with w | ⟨w, _⟩
        · rw [w] at q; exact (c3 j q).1
        · rw [w] at q; injection q with q; omega
      have hne : ∀ j, j < n2 + 1 → ownId acc ≠ some j → ownId acc' ≠ some j := fun j hj hn q => by
        rcases i4 with w | ⟨w, _⟩
        · rw [w] at q; exact hn q
        · rw [w] at q; injection q with q; omega
      have kp1 : ∀ j, j < n1 → ownId acc ≠ some j → h4 j = h1 j := fun j hj hn => by rw [o4 j (by omega) hn, o3 j (by omega), o2 j hj]
      have bs4 := (c2.mono (h' := h4) (D' := fun j => n0 ≤ j ∧ j < n4 ∧ ownId acc' ≠ some j) (fun j q => ⟨q.1, by omega, hne j (by omega) q.2.2⟩) (fun j q => kp1 j (by omega) q.2.2)).snoc (b2.keep (h' := h4) fun j q => by rw [o4 j (by have := i2 j q; omega) (an2 j (i2 j q).1), o3 j (by have := i2 j q; omega)]) (fun j q => ⟨by have := i2 j q; omega, by have := i2 j q; omega, hne j (by have := i2 j q; omega) (an2 j (i2 j q).1)⟩)
      refine ih (i + 1) h4 n4 acc' _ _ _ _ _ _ (by omega) ⟨_, by rw [hss, if_pos rfl, List.length_append]; exact l4, by rw [hss, if_pos rfl]; exact bs4, fun j q => ⟨i4' j q, l4.live f4 q⟩⟩ (by omega) f4 fun j hj => ?_
      rw [kp1 j (by omega) (fun q => by have := c3 j q; omega)]
      exact ho1 j hj
theorem f44 (x : Nat) (z : Int) (L : List Ver) (D M : Nat → Prop) (h : Hp) (n : Nat) (hs : Ix h n D M x L) (hc : L.length ≤ 1000000) (hf : Free h n) :
    Wp (callI env (evalW env) 44 [.ptr x 0, .int .i64 z]) h n fun v' h' n' => ∃ S, Rises true S ∧ L.Perm S ∧ BL h' n n' v' (cmpL (scr z S)) ∧ Old h h' n := by
  obtain ⟨⟨S, s0, rS, perm⟩, rL, ok⟩ := hs
  obtain ⟨vl, vs, xl, xs, iv, mx, ml, ms, mn⟩ := s0
  have hSl : S.length = L.length := perm.length_eq.symm
  refine wp_callI ff44 fi44 ?_
  simp only [fu44, Try.f44, Option.getD_some, List.replicate, core1, fgr, hkr, execOp, opd, opds, ofValue, putT, put, nth, forgetL, doCall, callV_func, ended, resultOf, oneOrTup, List.cons_append, List.nil_append, List.append_nil, List.length_cons, List.length_nil, Nat.reduceAdd, Nat.reduceSub, Nat.zero_add, wp_pure]
  refine opv_same (f73 x _ true h n iv.row rfl) ?_
  simp only [core1, tyr, fgr, execOp, opd, putT, put, nth, forgetL, und, sizeOf, nilCheck, getO, moved, fieldAddr, List.getElem?_cons_succ, List.getElem?_cons_zero, Bool.not_true, Nat.zero_add, Nat.add_zero]
  rw [opv_rd (iv.row.one (off := 3) rfl ti95 rfl)]
  simp only [core1, fgr, execOp, opd, opds, ofValue, putT, put, nth, forgetL, doCall, builtin, one1, iv.s.rds.bLen u95]
  refine loop44 _ _ vs z S.length xs S D h n (by omega) iv.s.rds (fun j q => (mn j (ms j q)).1) iv.sp iv.dn (fun v hv => (ok v (perm.mem_iff.2 hv)).2) ?_ S.length 0 h n .nils _ _ _ _ _ _ (by omega) ⟨[], .nil, Bs.nil _ _, fun j q => by cases q⟩ (Nat.le_refl _) hf (Old.refl _ _)
  intro h1 n1 acc x0 x4 x7 x9 x18 x25 hb hn hf1 ho
  simp only [core1, hkr, execOp, opd, opds, putT, put, nth, doCall, callV_func, List.nil_append, List.append_nil]
  have hle := scr_le z S
  refine opv_callf hf1 (f91 acc (scr z S) n h1 n1 hb (by omega) hf1) fun v2 h2 n2 hn2 f2 ⟨e2, b2, o2⟩ => ?_
  subst e2
  simp only [core1, fgr, execOp, opd, putT, put, nth, forgetL, true_and]
  refine ⟨S, rS, perm, b2, fun j hj => ?_⟩
  obtain ⟨_, _, _, c3⟩ := hb
  rw [o2 j (fun q => by have := c3 j q; omega), ho j hj]
/- Scripts one after the other, plainly. -/
theorem less_cb : ∀ a b : List UInt8, Op.bytesLess a b = decide (Lib.compareBytes a b < 0)
  | [], [] => rfl
  | [], _ :: _ => rfl
  | _ :: _, [] => rfl
  | a :: x, b :: y => by
    unfold Op.bytesLess Lib.compareBytes
    rw [less_cb x y]
    by_cases c : a < b
    · simp [c]
    · by_cases d : b < a
      · have : ¬ a = b := fun e => by subst e; exact c d
        simp [c, d, this]
      · have : a = b := by
          simp only [UInt8.lt_iff_toNat_lt] at c d
          exact UInt8.toNat_inj.1 (by omega)
        subst this
        simp [c]
theorem scr_up {S : List Ver} (r : Rises true S) (z : Int) : Up (scr z S) := by
  unfold Up scr
  rw [List.pairwise_map]
  refine (List.Pairwise.filter _ r).imp fun {a b} h => ?_
  exact orI_neg (show orI (Lib.compareBytes a.script b.script) (cmpV a b) < 0 from h)
theorem scr_mem {S : List Ver} {z : Int} {s : List UInt8} : s ∈ scr z S ↔ ∃ v ∈ S, there v z = true ∧ v.script = s := by
  unfold scr
  simp only [List.mem_map, List.mem_filter]
  constructor
  · rintro ⟨v, ⟨a, b⟩, c⟩; exact ⟨v, a, b, c⟩
  · rintro ⟨v, a, b, c⟩; exact ⟨v, ⟨a, b⟩, c⟩
/-- How many there are of each, together. -/
def total (L : List Ver) (z : Int) (ds : List (List UInt8)) : Nat := (ds.map fun d => (ofV L d z).length).sum
theorem sum_zero : ∀ (ds : List (List UInt8)) (f : List UInt8 → Nat), (∀ d ∈ ds, f d = 0) → (ds.map f).sum = 0
  | [], _, _ => rfl
  | d :: ds, f, h => by rw [List.map_cons, List.sum_cons, h d List.mem_cons_self, sum_zero ds f fun x hx => h x (List.mem_cons_of_mem _ hx)]
theorem sum_one {s : List UInt8} : ∀ (ds : List (List UInt8)), ds.Nodup → s ∈ ds → (ds.map fun d => if s = d then 1 else 0).sum = 1
  | [], _, h => by cases h
  | d :: ds, nd, h => by
    obtain ⟨h1, h2⟩ := List.nodup_cons.1 nd
    rw [List.map_cons, List.sum_cons]
    by_cases c : s = d
    · subst c
      rw [if_pos rfl, sum_zero ds (fun x => if s = x then 1 else 0) fun x hx => if_neg fun (e : s = x) => h1 (by rw [e]; exact hx)]
    · rw [if_neg c, sum_one ds h2 ((List.mem_cons.1 h).resolve_left c)]
theorem sum_add : ∀ (ds : List (List UInt8)) (f g : List UInt8 → Nat), (ds.map fun d => f d + g d).sum = (ds.map f).sum + (ds.map g).sum
  | [], _, _ => rfl
  | d :: ds, f, g => by simp only [List.map_cons, List.sum_cons, sum_add ds f g]; omega
theorem total_all {ds : List (List UInt8)} (nd : ds.Nodup) {z : Int} : ∀ (L : List Ver), (∀ v ∈ L, there v z = true → v.script ∈ ds) → total L z ds = (L.filter fun v => there v z).length
  | [], _ => sum_zero ds _ fun d _ => rfl
  | v :: L, h => by
    have ih := total_all nd L fun w hw => h w (List.mem_cons_of_mem _ hw)
    have e : ∀ d, (ofV (v :: L) d z).length = (ofV L d z).length + (if there v z = true ∧ v.script = d then 1 else 0) := fun d => by
      unfold ofV
      rw [List.filter_cons]
      by_cases c : there v z = true
      · by_cases c2 : v.script = d
        · simp [c, c2]
        · simp [c, c2]
      · simp [c]
    unfold total at *
    simp only [e]
    rw [sum_add, ih, List.filter_cons]
    by_cases c : there v z = true
    · rw [if_pos c, List.length_cons]
      simp only [c, true_and]
      rw [sum_one ds nd (h v List.mem_cons_self c)]
    · rw [if_neg c]
      have c' : there v z = false := by cases q : there v z; rfl; exact absurd q c
      rw [sum_zero ds _ fun d _ => if_neg fun q => c q.1]
      rfl
theorem up_nodup {ds : List (List UInt8)} (h : ds.Pairwise fun a b => Lib.compareBytes a b < 0) : ds.Nodup := h.imp fun {a b} hab e => by
  subst e
  have := cb_refl a
  omega
/-- The scripts at a height: what stands of each is there, they rise, and together it is all. -/
structure Told7 (L : List Ver) (z : Int) (ds : List (List UInt8)) : Prop where
  len : ds.length ≤ L.length
  up : ds.Pairwise fun a b => Lib.compareBytes a b < 0
  some_ : ∀ d ∈ ds, ofV L d z ≠ []
  all : total L z ds = (L.filter fun v => there v z).length
theorem told7 {L S : List Ver} {z : Int} (rS : Rises true S) (perm : L.Perm S) : Told7 L z (cmpL (scr z S)) := by
  have up := cmpL_up (scr_up rS z)
  refine ⟨?_, up, fun d hd => ?_, total_all (up_nodup up) L fun v hv ht => cmpL_mem.2 (scr_mem.2 ⟨v, perm.mem_iff.1 hv, ht, rfl⟩)⟩
  · have h1 : (cmpL (scr z S)).length ≤ (scr z S).length := by unfold cmpL; rw [List.length_map]; exact kp_le _ _
    have h2 := scr_le z S
    have := perm.length_eq
    omega
  · obtain ⟨v, hv, ht, rfl⟩ := scr_mem.1 (cmpL_mem.1 hd)
    intro e
    have : v ∈ ofV L v.script z := List.mem_filter.2 ⟨perm.mem_iff.2 hv, by simp [ht]⟩
    rw [e] at this
    cases this
theorem total_s {L : List Ver} {z : Int} {ds : List (List UInt8)} {i : Nat} (hi : i < ds.length) : total L z (ds.take (i + 1)) = total L z (ds.take i) + (ofV L ds[i] z).length := by
  unfold total
  rw [List.take_add_one, List.getElem?_eq_getElem hi, Option.toList_some, List.map_append, List.sum_append]
  simp
theorem total_le {L : List Ver} {z : Int} {ds : List (List UInt8)} : ∀ i, total L z (ds.take i) ≤ i * L.length := by
  intro i
  induction i with
  | zero => simp [total]
  | succ i ih =>
    by_cases hi : i < ds.length
    · rw [total_s hi]
      have : (ofV L ds[i] z).length ≤ L.length := List.length_filter_le _ _
      rw [Nat.succ_mul]; omega
    · rw [List.take_of_length_le (by omega)] at *
      rw [Nat.succ_mul]; omega
/-- What is told of an outpoint is the last one of its versions. -/
theorem at_last {L : List Ver} {z : Int} (r : Rises false L) {i : Nat} (hi : i < (L.filter fun v => there v z).length)
    (hlast : ∀ (h : i + 1 < (L.filter fun v => there v z).length), same (L.filter fun v => there v z)[i].hash (L.filter fun v => there v z)[i].pn (L.filter fun v => there v z)[i + 1] = false) :
    atV L (L.filter fun v => there v z)[i].hash (L.filter fun v => there v z)[i].pn z = some (L.filter fun v => there v z)[i] := by
  have e : ∀ hash pn, (L.filter fun v => same hash pn v && there v z) = (L.filter fun v => there v z).filter (same hash pn) := fun hash pn => by
    rw [List.filter_filter]
  unfold atV
  rw [e]
  have rA : Rises false (L.filter fun v => there v z) := r.sublist List.filter_sublist
  generalize (L.filter fun v => there v z) = A at *
  have hs : same A[i].hash A[i].pn A[i] = true := same_iff.2 (ordQ.refl A[i])
  have hrest : (A.drop (i + 1)).filter (same A[i].hash A[i].pn) = [] := by
    rw [List.filter_eq_nil_iff]
    intro a ha
    obtain ⟨j, hj, rfl⟩ := List.mem_iff_getElem.1 ha
    rw [List.length_drop] at hj
    rw [List.getElem_drop]
    have h1 := hlast (by omega)
    have q1 : cmpQ A[i] A[i + 1] < 0 := by
      have h2 : cmpQ A[i] A[i + 1] ≤ 0 := orI_neg (show orI (cmpP A[i].hash A[i].pn A[i + 1].hash A[i + 1].pn) _ < 0 from rA.at_ hi (by omega) (by omega))
      have h3 : cmpQ A[i + 1] A[i] ≠ 0 := fun q => by
        have w : same A[i].hash A[i].pn A[i + 1] = true := same_iff.2 q
        rw [w] at h1; cases h1
      have := ordQ.anti A[i] A[i + 1]
      omega
    have q2 : cmpQ A[i + 1 + j] A[i] ≠ 0 := by
      by_cases c : j = 0
      · subst c
        have := ordQ.anti A[i] A[i + 1]
        intro w
        have w : cmpQ A[i + 1] A[i] = 0 := w
        omega
      · have h2 : cmpQ A[i + 1] A[i + 1 + j] ≤ 0 := orI_neg (show orI (cmpP A[i + 1].hash A[i + 1].pn A[i + 1 + j].hash A[i + 1 + j].pn) _ < 0 from rA.at_ (by omega) (by omega) (by omega))
        have := past ordQ (t := A[i]) (a := A[i + 1]) (b := A[i + 1 + j]) (by have := ordQ.anti A[i] A[i + 1]; omega) h2
        omega
    intro w
    exact q2 (same_iff.1 w)
  have ed : ∀ f, (A.drop (i + 1)).filter f = [] → f A[i] = true → A.filter f = (A.take i).filter f ++ [A[i]] := fun f h1 h2 => by
    have e2 : A.filter f = (A.take (i + 1) ++ A.drop (i + 1)).filter f := by rw [List.take_append_drop]
    rw [e2, List.filter_append, h1, List.append_nil, take_snoc hi, List.filter_append]
    simp [h2]
  rw [ed _ hrest hs, List.getLast?_append]
  rfl
theorem at_some {L : List Ver} {z : Int} {v : Ver} (hv : v ∈ L) (ht : there v z = true) : (atV L v.hash v.pn z).isSome = true := by
  unfold atV
  cases e : (L.filter fun w => same v.hash v.pn w && there w z).getLast? with
  | some a => rfl
  | none =>
    rw [List.getLast?_eq_none_iff] at e
    have : v ∈ L.filter fun w => same v.hash v.pn w && there w z := List.mem_filter.2 ⟨hv, by simp [ht, same]⟩
    rw [e] at this
    cases this
/-- What stays when memory is only added. -/
def Stays (A : Hp → Nat → Prop) : Prop := ∀ h h' n n', n ≤ n' → Old h h' n → A h n → A h' n'
end Go.Am.Ytlgebaofkolkoaa
