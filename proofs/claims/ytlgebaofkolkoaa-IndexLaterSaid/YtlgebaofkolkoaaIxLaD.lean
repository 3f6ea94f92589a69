/- The functions that the statement reaches, gone through. -/
import Derived.Test.YtlgebaofkolkoaaIxLaC
set_option linter.unusedSimpArgs false
set_option linter.unusedVariables false
set_option linter.defProp false
set_option maxRecDepth 10000
namespace Go.Am.Ytlgebaofkolkoaa
open Go Go.Am Go.Proofs
theorem f29 (h : Hp) (n : Nat) (hf : Free h n) : Wp (callI env (evalW env) 29 []) h n fun v' h' n' => v' = .bool true ∧ Old h h' n := by
  refine wp_callI ff29 fi29 ?_
  simp only [fu29, Try.f29, Option.getD_some, List.replicate, core1, fgr, hkr, execOp, opd, opds, ofValue, putT, put, forgetL, doCall, callV_func, ended, resultOf, oneOrTup, List.append_eq, List.cons_append, List.nil_append, List.append_nil, List.length_nil, Nat.reduceSub, wp_pure]
  refine opv_callf hf (f40k h n hf) fun v1 h1 n1 hn1 f1 ⟨x, e1, hx, s1, o1⟩ => ?_
  subst e1
  simp only [core1, tyr, execOp, opd, ofValue, ops2, putT, put, und, cel, getO, List.cons_append, List.nil_append, List.append_nil, List.length_cons, List.length_nil, Nat.beq, Bool.not_false, Bool.and_true, Bool.true_and, Nat.zero_add, Nat.zero_mul, buildSlice, reps, fill, List.take_zero, List.drop_succ_cons, List.drop_zero, Nat.ble, Nat.one_mul, List.length_cons, List.length_nil, Nat.zero_mul]
  refine opv_row ti5 f1 (f := fun id => AVal.sl id 0 1 (some 1) 1) fun H2 r2 o2 f2 => ?_
  have hb2 : Bytes H2 (.sl n1 0 1 (some 1) 1) [81] := Bytes.fresh (l := [81]) r2
  have s2 := s1.grow (n' := n1 + 1) (by omega) (fun j hj => o2 j (by omega))
  have old2 : Old h H2 n := fun j hj => by rw [o2 j (by omega), o1 j hj]
  have kd : AVal.cells (.sl n1 0 1 (some 1) 1) = [.sl n1 0 1 (some 1) 1] ∧ oneCell (.sl n1 0 1 (some 1) 1) = true ∧ isJunk (.sl n1 0 1 (some 1) 1) = false := ⟨rfl, rfl, rfl⟩
  have Kn : ∀ j, j < n ∨ j = n1 → (j < n ∨ (n1 ≤ j ∧ j < n1 + 1)) := fun j q => by omega
  replace s2 := s2.sub Kn
  simp only [core1, fgr, hkr, execOp, opd, opds, ofValue, ops2, putT, put, nth, forgetL, doCall, callV_func, List.nil_append, List.append_nil, build31m kd]
  refine opv_callf f2 (f33k (exv 3 0) _ ⟨rfl, rfl⟩ (by decide) (by decide) s2 hb2 (fun j q => by injection q with q; omega) (by decide) f2) fun v3 h3 n3 hn3 f3 ⟨k3, hh⟩ => ?_
  rcases hh with ⟨q, _⟩ | ⟨_, e3, s3⟩
  · exact absurd q ex1
  subst e3
  rw [ex2] at s3
  have hb3 := hb2.keep (h' := h3) fun j q => k3 j (by injection q with q; exact .inr q.symm)
  simp only [core1, hkr, execOp, opd, opds, ofValue, ops2, putT, put, nth, doCall, callV_func, List.nil_append, List.append_nil, build31m kd]
  refine opv_callf f3 (f33k (exv 3 0) _ ⟨rfl, rfl⟩ (by decide) (by decide) s3 hb3 (fun j q => by injection q with q; omega) (by decide) f3) fun v4 h4 n4 hn4 f4 ⟨k4, hh⟩ => ?_
  rcases hh with ⟨_, e4, s4⟩ | ⟨q, _⟩
  rotate_left
  · exact absurd ex3 q
  subst e4
  have hb4 := hb3.keep (h' := h4) fun j q => k4 j (by injection q with q; exact .inr q.symm)
  simp only [core1, hkr, execOp, opd, opds, ofValue, ops2, putT, put, nth, doCall, callV_func, List.nil_append, List.append_nil, build31v kd]
  refine opv_callf f4 (f33k (exv 5 7) _ ⟨rfl, rfl⟩ (by decide) (by decide) s4 hb4 (fun j q => by injection q with q; omega) (by decide) f4) fun v5 h5 n5 hn5 f5 ⟨k5, hh⟩ => ?_
  rcases hh with ⟨q, _⟩ | ⟨_, e5, s5⟩
  · exact absurd q ex4
  subst e5
  rw [ex5] at s5
  have hb5 := hb4.keep (h' := h5) fun j q => k5 j (by injection q with q; exact .inr q.symm)
  have old5 : Old h h5 n := fun j hj => by rw [k5 j (.inl hj), k4 j (.inl hj), k3 j (.inl hj), old2 j hj]
  simp only [core1, fgr, hkr, execOp, opd, opds, ofValue, ops2, putT, put, nth, forgetL, doCall, callV_func, List.nil_append, List.append_nil, build28z, build25_9]
  refine opv_callf f5 (f36k z0 0 3 4 b9 rfl rfl s5 (by decide) f5) fun v6 h6 n6 hn6 f6 ⟨k6, hh⟩ => ?_
  rcases hh with ⟨q, _⟩ | ⟨w, hw, q, _, _, _, e6, s6⟩
  · have := q (exv 3 0) List.mem_cons_self ex7
    rcases this with q | q | q
    · exact absurd rfl q
    · exact absurd q (by decide)
    · exact absurd q (by decide)
  subst e6
  have ew : w = exv 3 0 := by
    rcases List.mem_cons.1 hw with q' | q'
    · exact q'
    · rw [List.mem_singleton.1 q'] at q
      exact absurd q ex8
  subst ew
  rw [ex6] at s6
  have hb6 := hb5.keep (h' := h6) fun j q => k6 j (by injection q with q; exact .inr q.symm)
  have old6 : Old h h6 n := fun j hj => by rw [k6 j (.inl hj), old5 j hj]
  simp only [core1, fgr, hkr, execOp, opd, opds, ofValue, ops2, putT, put, nth, forgetL, doCall, callV_func, List.nil_append, List.append_nil, build28z]
  refine opv_callf f6 (f37k z0 0 3 rfl s6 (by decide) f6) fun v7 h7 n7 hn7 f7 ⟨o7, sA, e7, okA, bA, iA⟩ => ?_
  subst e7
  rw [ex9] at okA bA
  simp only [core1, execOp, opd, putT, put, nth, extract, getO, List.getElem?_cons_succ, List.getElem?_cons_zero, ex9, Option.getD_some, Option.isSome_some]
  rw [opv_alloc ti31 rfl]
  simp only [core1, execOp, opd, putT, put, nth, cel]
  refine opv_hold (v := .agg (vcells (endV (exv 3 0) 4 b9) sA)) ti31 rfl (vcells_len okA.h okA.b) (vcells_cell bA.kind.2.1) f7 fun H7 r7 p7 f7' => ?_
  simp only [core1, fgr, hkr, execOp, opd, opds, ofValue, ops2, putT, put, nth, forgetL, doCall, callV_func, List.nil_append, List.append_nil, build28z]
  have s7 := (s6.old hn7 o7).grow (n' := n7 + 1) (by omega) (fun j hj => p7 j (by omega))
  refine opv_callf f7' (f37k z0 0 4 rfl s7 (by decide) f7') fun v8 h8 n8 hn8 f8 ⟨o8, sB, e8, okB, bB, iB⟩ => ?_
  subst e8
  rw [ex10] at okB bB
  simp only [core1, execOp, opd, putT, put, nth, extract, getO, List.getElem?_cons_succ, List.getElem?_cons_zero, ex10, Option.getD_none, Option.isSome_none]
  rw [opv_alloc ti31 rfl]
  simp only [core1, execOp, opd, putT, put, nth, cel]
  refine opv_hold (v := .agg (vcells noV sB)) ti31 rfl (vcells_len okB.h okB.b) (vcells_cell bB.kind.2.1) f8 fun H8 r8 p8 f8' => ?_
  simp only [core1, fgr, hkr, execOp, opd, opds, ofValue, ops2, putT, put, nth, forgetL, doCall, callV_func, List.nil_append, List.append_nil, build28z]
  have s8 := (s7.old hn8 o8).old (n' := n8 + 1) (by omega) (fun j hj => p8 j (by omega))
  refine opv_callf f8' (f37k z0 0 5 rfl s8 (by decide) f8') fun v9 h9 n9 hn9 f9 ⟨o9, sC, e9, okC, bC, iC⟩ => ?_
  subst e9
  rw [ex11] at okC bC
  simp only [core1, execOp, opd, putT, put, nth, extract, getO, List.getElem?_cons_succ, List.getElem?_cons_zero, ex11, Option.getD_some, Option.isSome_some]
  rw [opv_alloc ti31 rfl]
  simp only [core1, execOp, opd, putT, put, nth, cel]
  refine opv_hold (v := .agg (vcells (exv 5 7) sC)) ti31 rfl (vcells_len okC.h okC.b) (vcells_cell bC.kind.2.1) f9 fun H9 r9 p9 f9' => ?_
  have s9 := (s8.old hn9 o9).grow (n' := n9 + 1) (by omega) (fun j hj => p9 j (by omega))
  have old9 : Old h H9 n := fun j hj => by rw [p9 j (by omega), o9 j (by omega), p8 j (by omega), o8 j (by omega), p7 j (by omega), o7 j (by omega), old6 j hj]
  have hb9 := hb6.keep (h' := H9) fun j q => by
    injection q with q; subst q
    rw [p9 _ (by omega), o9 _ (by omega), p8 _ (by omega), o8 _ (by omega), p7 _ (by omega), o7 _ (by omega)]
  have rA : Row H9 n7 (vcells (endV (exv 3 0) 4 b9) sA) := r7.keep (by rw [p9 _ (by omega), o9 _ (by omega), p8 _ (by omega), o8 _ (by omega)])
  simp only [core1, fgr, hkr, execOp, opd, opds, ofValue, ops2, putT, put, nth, forgetL, doCall, callV_func, List.nil_append, List.append_nil, build28z]
  refine opv_callf f9' (f38k z0 0 5 rfl s9 (by decide) f9') fun v10 h10 n10 hn10 f10 ⟨k10, hh⟩ => ?_
  rcases hh with ⟨_, e10, s10⟩ | ⟨w, hw, q, q2, _⟩
  rotate_left
  · exfalso
    rcases List.mem_cons.1 hw with q' | q'
    · rw [q'] at q
      exact absurd q ex12
    · rw [List.mem_singleton.1 q'] at q2
      exact absurd rfl q2
  subst e10
  simp only [core1, hkr, execOp, opd, opds, ofValue, ops2, putT, put, nth, doCall, callV_func, List.nil_append, List.append_nil, build28z]
  refine opv_callf f10 (f38k z0 0 3 rfl s10 (by decide) f10) fun v11 h11 n11 hn11 f11 ⟨k11, hh⟩ => ?_
  rcases hh with ⟨q, _⟩ | ⟨w, hw, q, q2, e11, s11⟩
  · have := q (endV (exv 3 0) 4 b9) List.mem_cons_self ex14
    exact absurd this (by decide)
  subst e11
  have ew : w = endV (exv 3 0) 4 b9 := by
    rcases List.mem_cons.1 hw with q' | q'
    · exact q'
    · rw [List.mem_singleton.1 q'] at q2
      exact absurd rfl q2
  subst ew
  rw [ex15] at s11
  have kk : ∀ j, (j < n ∨ j = n1) ∨ j = n7 ∨ j = n9 → h11 j = H9 j := fun j q => by
    have q' : ((j < n ∨ j = n1) ∨ n7 ≤ j ∧ j < n7 + 1) ∨ n9 ≤ j ∧ j < n9 + 1 := by
      rcases q with q | q | q
      · exact .inl (.inl q)
      · exact .inl (.inr (by omega))
      · exact .inr (by omega)
    rw [k11 j q', k10 j q']
  have old11 : Old h h11 n := fun j hj => by rw [kk j (.inl (.inl hj)), old9 j hj]
  have hb11 := hb9.keep (h' := h11) fun j q => kk j (by injection q with q; exact .inl (.inr q.symm))
  have rA' := rA.keep (kk n7 (.inr (.inl rfl)))
  have rC' := r9.keep (kk n9 (.inr (.inr rfl)))
  simp only [core1, tyr, fgr, execOp, opd, ofValue, putT, put, nth, forgetL, und, sizeOf, bor, binInt, shiftB, intOp, doPick, branch, getO, moved, fieldAddr, List.getElem?_cons_succ, List.getElem?_cons_zero, decide_true, Nat.zero_add, beq_self_eq_true]
  rw [opv_rd (row_made rA' okA)]
  simp only [core1, tyr, execOp, opd, ofValue, putT, put, nth, und, sizeOf, bor, binInt, shiftB, intOp, doPick, branch, getO, moved, fieldAddr, List.getElem?_cons_succ, List.getElem?_cons_zero, decide_true, Nat.zero_add, beq_self_eq_true, show (endV (exv 3 0) 4 b9).made = 3 from rfl]
  rw [opv_rd (row_spent rA' okA)]
  simp only [core1, tyr, execOp, opd, ofValue, putT, put, nth, und, sizeOf, bor, binInt, shiftB, intOp, unOp, doPick, branch, getO, moved, fieldAddr, List.getElem?_cons_succ, List.getElem?_cons_zero, decide_true, Bool.not_false, Nat.zero_add, beq_self_eq_true, show (endV (exv 3 0) 4 b9).spent = 4 from rfl]
  rw [opv_rd (row_value rC' okC)]
  simp only [core1, hkr, execOp, opd, opds, ofValue, putT, put, nth, doCall, callV_func, bor, binInt, shiftB, intOp, doPick, branch, List.getElem?_cons_succ, List.getElem?_cons_zero, List.nil_append, List.append_nil, decide_true, beq_self_eq_true, show (exv 5 7).value = 7 from rfl]
  refine opv_callf f11 (f43k _ [81] 9 s11 hb11 (fun j q => by injection q with q; omega) (by decide) f11) fun v12 h12 n12 hn12 f12 ⟨l12, o12⟩ => ?_
  obtain ⟨cells, c1, c2, c3⟩ := l12
  rw [ex16] at c1
  have bl := c1.rds.bLen (E := env) (ts := []) u43
  simp only [core1, fgr, execOp, opd, opds, ofValue, putT, put, nth, forgetL, doCall, builtin, one1, bor, binInt, shiftB, intOp, doPick, branch, List.getElem?_cons_succ, List.getElem?_cons_zero, int_beq, decide_true, true_and, bl]
  exact ⟨rfl, fun j hj => by rw [o12 j (by omega), old11 j hj]⟩
/- Versions and calls as arguments; what is more than statements go through. -/
theorem k5 : Try.prog.cellsOf 5 = 1 := by kernel_rfl
theorem k2 : Try.prog.cellsOf 2 = 1 := by kernel_rfl
theorem k3 : Try.prog.cellsOf 3 = 1 := by kernel_rfl
theorem k4 : Try.prog.cellsOf 4 = 1 := by kernel_rfl
theorem k25 : Try.prog.cellsOf 25 = 32 := by kernel_rfl
theorem k26 : Try.prog.cellsOf 26 = 1 := by kernel_rfl
theorem k28 : Try.prog.cellsOf 28 = 33 := by kernel_rfl
theorem k29 : Try.prog.cellsOf 29 = 1 := by kernel_rfl
theorem k31 : Try.prog.cellsOf 31 = 70 := by kernel_rfl
theorem k91 : Try.prog.cellsOf 91 = 72 := by kernel_rfl
theorem ty_u8 (b : UInt8) : toByte (u8 b) = b := by simp [toByte, u8]
theorem arg_hash {vs : List AVal} (ha : Arg Try.prog 25 vs) : ∃ l : List UInt8, vs = l.map u8 ∧ l.length = 32 := by
  obtain ⟨hl, he⟩ := ha.array_inv Try.underlying25
  rw [k25] at hl
  refine ⟨vs.map toByte, ?_, by simpa using hl⟩
  rw [List.map_map]
  refine List.ext_getElem (by simp) fun i h1 h2 => ?_
  have q := he i (by omega)
  rw [k5, Nat.mul_one] at q
  obtain ⟨z, e, hw⟩ := q.int_inv Try.underlying5
  have e' : vs[i] = .int .u8 z := by
    have : ((vs.drop i).take 1)[0]? = some vs[i] := by simp [List.getElem?_drop, h1]
    rw [e] at this
    simpa using this.symm
  rw [List.getElem_map, Function.comp, e']
  have : AVal.int .u8 z = u8 (byteOf z) := by rw [u8, byteOf_eq hw]
  rw [this, ty_u8]
theorem chop (vs : List AVal) (a k : Nat) : vs.drop a = (vs.drop a).take k ++ vs.drop (a + k) := by
  rw [← List.drop_drop, List.take_append_drop]
theorem arg_point {vs : List AVal} (ha : Arg Try.prog 28 vs) : ∃ (hash : List UInt8) (pn : Int), vs = pcells hash pn ∧ hash.length = 32 ∧ 0 ≤ pn := by
  obtain ⟨hl, he⟩ := ha.struct_inv Try.underlying28
  rw [k28] at hl
  have q0 : Arg Try.prog 25 ((vs.drop 0).take (Try.prog.cellsOf 25)) := he 0 _ rfl
  have q1 : Arg Try.prog 26 ((vs.drop 32).take (Try.prog.cellsOf 26)) := he 1 _ rfl
  rw [k25] at q0
  rw [k26] at q1
  obtain ⟨hash, e0, hh⟩ := arg_hash q0
  obtain ⟨pn, e1, hw⟩ := q1.int_inv Try.underlying26
  refine ⟨hash, pn, ?_, hh, ?_⟩
  · have c0 := chop vs 0 32
    have c1 := chop vs (0 + 32) 1
    rw [List.drop_zero] at c0
    rw [List.drop_zero] at e0
    rw [e0, c1, e1, List.drop_eq_nil_of_le (show vs.length ≤ 0 + 32 + 1 by omega)] at c0
    rw [c0]; rfl
  · simp only [Lit.wf, Bool.and_eq_true, decide_eq_true_eq] at hw
    exact hw.1
/-- A version that was handed in. -/
structure ArgVer (v : Ver) (sv : AVal) : Prop where
  ok : v.Ok
  pn : 0 ≤ v.pn
  s : ArgBytes sv v.script
  sl : v.script.length ≤ maxLen
  m : (Lit.int .i64 v.made).wf = true
theorem argB_id {v : AVal} {l : List UInt8} (hv : ArgBytes v l) : ownId v = none := by
  cases hi : ownId v with
  | none => rfl
  | some j => exact absurd (below_own (hv.below 0) hi) (Nat.not_lt_zero j)
theorem arg_ver {vs : List AVal} (ha : Arg Try.prog 31 vs) : ∃ v sv, vs = vcells v sv ∧ ArgVer v sv := by
  obtain ⟨hl, he⟩ := ha.struct_inv Try.underlying31
  rw [k31] at hl
  have q0 : Arg Try.prog 28 ((vs.drop 0).take (Try.prog.cellsOf 28)) := he 0 _ rfl
  have q1 : Arg Try.prog 3 ((vs.drop 33).take (Try.prog.cellsOf 3)) := he 1 _ rfl
  have q2 : Arg Try.prog 2 ((vs.drop 34).take (Try.prog.cellsOf 2)) := he 2 _ rfl
  have q3 : Arg Try.prog 29 ((vs.drop 35).take (Try.prog.cellsOf 29)) := he 3 _ rfl
  have q4 : Arg Try.prog 4 ((vs.drop 36).take (Try.prog.cellsOf 4)) := he 4 _ rfl
  have q5 : Arg Try.prog 3 ((vs.drop 37).take (Try.prog.cellsOf 3)) := he 5 _ rfl
  have q6 : Arg Try.prog 25 ((vs.drop 38).take (Try.prog.cellsOf 25)) := he 6 _ rfl
  rw [k28] at q0
  rw [k3] at q1 q5
  rw [k2] at q2
  rw [k29] at q3
  rw [k4] at q4
  rw [k25] at q6
  obtain ⟨hash, pn, e0, hh, hp⟩ := arg_point q0
  obtain ⟨made, e1, w1⟩ := q1.int_inv Try.underlying3
  obtain ⟨value, e2, w2⟩ := q2.int_inv Try.underlying2
  have e3 : ∃ sv, (vs.drop 35).take 1 = [sv] := by
    have : ((vs.drop 35).take 1).length = 1 := by simp; omega
    exact List.length_eq_one_iff.1 this
  obtain ⟨sv, e3⟩ := e3
  rw [e3] at q3
  obtain ⟨script, hb, hbl⟩ := arg_bytes Try.underlying29 Try.underlying5 k5 q3
  obtain ⟨base, e4⟩ := q4.bool_inv Try.underlying4
  obtain ⟨spent, e5, w5⟩ := q5.int_inv Try.underlying3
  obtain ⟨by_, e6, hby⟩ := arg_hash q6
  refine ⟨⟨hash, pn, made, value, script, base, spent, by_⟩, sv, ?_, ⟨⟨hh, hby⟩, hp, hb, hbl, w1⟩⟩
  have c0 := chop vs 0 33
  rw [List.drop_zero] at c0
  rw [List.drop_zero] at e0
  rw [e0, chop vs (0 + 33) 1, e1, chop vs (0 + 33 + 1) 1, e2, chop vs (0 + 33 + 1 + 1) 1, e3, chop vs (0 + 33 + 1 + 1 + 1) 1, e4, chop vs (0 + 33 + 1 + 1 + 1 + 1) 1, e5, chop vs (0 + 33 + 1 + 1 + 1 + 1 + 1) 32, e6, List.drop_eq_nil_of_le (show vs.length ≤ 0 + 33 + 1 + 1 + 1 + 1 + 1 + 32 by omega)] at c0
  rw [c0]
  simp [vcells, vtail]
/-- A call. -/
structure OpI where
  kind : Int
  v : Ver
  at_ : Int
def ocells (o : OpI) (sv : AVal) : List AVal := .int .i64 o.kind :: (vcells o.v sv ++ [.int .i64 o.at_])
theorem ocells_len {o : OpI} {sv : AVal} (h : o.v.Ok) : (ocells o sv).length = 72 := by
  simp [ocells, vcells_len h.h h.b]
/-- Calls that were handed in. -/
structure ArgOps (a : AVal) (os : List OpI) (xs : List AVal) : Prop where
  rd : ∀ h, Rds h 72 a os.length xs
  id : ownId a = none
  len : os.length ≤ maxLen
  at_ : ∀ j (hj : j < os.length), ∃ sv, (xs.drop (j * 72)).take 72 = ocells os[j] sv ∧ ArgVer os[j].v sv
theorem cut_len (f : Nat → AVal) (o n : Nat) : (cut f o n).length = n := by simp [cut]
theorem cut_get (f : Nat → AVal) (o n : Nat) {j : Nat} (h : j < (cut f o n).length) : (cut f o n)[j] = f (o + j) := by simp [cut]
theorem cut_sub (f : Nat → AVal) (o n a b : Nat) (h : a + b ≤ n) : ((cut f o n).drop a).take b = cut f (o + a) b := by
  refine List.ext_getElem (by simp [cut]; omega) fun i h1 h2 => ?_
  rw [List.getElem_take, List.getElem_drop, cut_get, cut_get, Nat.add_assoc]
theorem arg_ops {a : AVal} (ha : Arg Try.prog 65 [a]) : ∃ os xs, ArgOps a os xs := by
  rcases ha.slice_inv Try.underlying65 (by rw [k91]; omega) with h | ⟨f, len, h, hl, hx⟩
  · injection h with h; subst h
    exact ⟨[], [], fun h => .nils, rfl, Nat.zero_le _, fun j hj => by simp at hj⟩
  · injection h with h
    subst h
    rw [k91] at hx ⊢
    have each : ∀ i, ∃ p : OpI × AVal, i < len → cut f (i * 72) 72 = ocells p.1 p.2 ∧ ArgVer p.1.v p.2 := fun i => by
      by_cases hi : i < len
      · obtain ⟨hl, he⟩ := (hx i hi).struct_inv Try.underlying91
        have q0 : Arg Try.prog 3 (((cut f (i * 72) 72).drop 0).take (Try.prog.cellsOf 3)) := he 0 _ rfl
        have q1 : Arg Try.prog 31 (((cut f (i * 72) 72).drop 1).take (Try.prog.cellsOf 31)) := he 1 _ rfl
        have q2 : Arg Try.prog 3 (((cut f (i * 72) 72).drop 71).take (Try.prog.cellsOf 3)) := he 2 _ rfl
        rw [k3] at q0 q2
        rw [k31] at q1
        obtain ⟨kind, e0, _⟩ := q0.int_inv Try.underlying3
        obtain ⟨v, sv, e1, hv⟩ := arg_ver q1
        obtain ⟨at_, e2, _⟩ := q2.int_inv Try.underlying3
        refine ⟨(⟨kind, v, at_⟩, sv), fun _ => ⟨?_, hv⟩⟩
        have c0 := chop (cut f (i * 72) 72) 0 1
        rw [List.drop_zero] at c0
        rw [List.drop_zero] at e0
        rw [e0, chop _ (0 + 1) 70, e1, chop _ (0 + 1 + 70) 1, e2, List.drop_eq_nil_of_le (by rw [cut_len]; omega)] at c0
        rw [c0]
        simp [ocells]
      · exact ⟨(⟨0, noV, 0⟩, .nils), fun q => absurd q hi⟩
    obtain ⟨b, hb⟩ := Classical.axiomOfChoice each
    refine ⟨(List.range len).map fun i => (b i).1, cut f 0 (len * 72), fun h => ?_, rfl, by simpa using hl, fun j hj => ?_⟩
    · have := Rds.isl (h := h) (sz := 72) f 0 len (cut f 0 (len * 72)) (by rw [cut_len]) (fun j hj => by rw [cut_get])
      simpa using this
    · simp only [List.length_map, List.length_range] at hj
      simp only [List.getElem_map, List.getElem_range]
      rw [cut_sub _ _ _ _ _ (by omega), Nat.zero_add]
      exact ⟨(b j).2, hb j hj⟩
theorem u65 : und env 65 = M.pure (.slice 91) := rfl
theorem z91 : sizeOf env 91 = M.pure 72 := rfl
/-- An element of a list of pieces. -/
theorem piece {xs ys : List AVal} {a b i : Nat} (h : (xs.drop a).take b = ys) (hi : i < b) : xs[a + i]? = ys[i]? := by
  rw [← h, List.getElem?_take, if_pos hi, List.getElem?_drop]
theorem ocells_v {o : OpI} {sv : AVal} {i : Nat} (h : o.v.Ok) (hi : i < 70) : (ocells o sv)[i + 1]? = (vcells o.v sv)[i]? := by
  unfold ocells
  rw [List.getElem?_cons_succ, List.getElem?_append_left (by rw [vcells_len h.h h.b]; omega)]
def overI (o : OpI) : Bool := decide (200 < o.v.script.length)
def greatI (os : List OpI) : Bool := os.any overI || decide (80 < os.length)
theorem loop30 (Q : Post0) (ks : List Kf) (a : AVal) (os : List OpI) (xs : List AVal) (h : Hp) (n : Nat) (ha : ArgOps a os xs)
    (hq : ∀ (x3 x7 x16 : AVal), os.any overI = false → Kont env 30 none Q ks (.exit 0) (a :: AVal.junk :: .bool false :: x3 :: AVal.junk :: .int .i64 (os.length : Nat) :: .int .i64 (os.length : Nat) :: x7 :: AVal.junk :: AVal.junk :: AVal.junk :: AVal.junk :: AVal.junk :: AVal.junk :: AVal.junk :: AVal.junk :: x16 :: AVal.junk :: AVal.junk :: AVal.junk :: AVal.junk :: []) h n)
    (hr : ∀ (x3 x7 x16 : AVal) (z : AVal), os.any overI = true → Kont env 30 none Q ks .ret (a :: AVal.junk :: .bool true :: x3 :: AVal.junk :: .int .i64 (os.length : Nat) :: z :: x7 :: AVal.junk :: AVal.junk :: AVal.junk :: AVal.junk :: AVal.junk :: AVal.junk :: AVal.junk :: AVal.junk :: x16 :: AVal.junk :: AVal.junk :: AVal.junk :: AVal.junk :: []) h n) :
    ∀ (m i : Nat) (x3 x7 x16 : AVal), i + m = os.length → (os.take i).any overI = false →
    Run env 30 none Q (.loop lp30_0) ks (a :: AVal.junk :: .bool false :: x3 :: AVal.junk :: .int .i64 (os.length : Nat) :: .int .i64 (i : Nat) :: x7 :: AVal.junk :: AVal.junk :: AVal.junk :: AVal.junk :: AVal.junk :: AVal.junk :: AVal.junk :: AVal.junk :: x16 :: AVal.junk :: AVal.junk :: AVal.junk :: AVal.junk :: []) h n := by
  have hlen := ha.len
  have hm : maxLen = 9223372036854775807 := rfl
  intro m
  induction m with
  | zero =>
    intro i x3 x7 x16 hi hs
    have : i = os.length := by omega
    subst this
    have hc : ¬ ((os.length : Nat) : Int) < ((os.length : Nat) : Int) := by omega
    rw [run_loop]
    simp only [lp30_0, loopsOf, Try.f30, Option.getD_some, core1, fgr, execOp, opd, putT, put, nth, forgetL, bor, binInt, shiftB, intOp, List.nil_append, List.append_nil, decide_true, decide_false, List.getD_cons_zero, hc]
    rw [List.take_length] at hs
    exact hq _ _ _ hs
  | succ m ih =>
    intro i x3 x7 x16 hi hs
    have hil : i < os.length := by omega
    have hc : ((i : Nat) : Int) < ((os.length : Nat) : Int) := by omega
    have hwr : IntKind.i64.wrap (((i : Nat) : Int) + 1) = ((i + 1 : Nat) : Int) := by rw [w64 (by omega) (by omega)]; omega
    obtain ⟨sv, e, hv⟩ := ha.at_ i hil
    have hr0 := ha.rd h
    have m1 := moved_adr hr0 (by omega) (i * 72) 1
    have m2 := moved_adr hr0 (by omega) (i * 72 + 1) 35
    have hx : xs[i * 72 + 1 + 35]? = some sv := by
      rw [show i * 72 + 1 + 35 = i * 72 + (35 + 1) by omega, piece e (by omega), ocells_v hv.ok (by omega)]
      exact vcells_t hv.ok.h 2
    rw [run_loop]
    simp only [lp30_0, loopsOf, Try.f30, Option.getD_some, core1, fgr, execOp, opd, putT, put, nth, forgetL, bor, binInt, shiftB, intOp, List.nil_append, List.append_nil, decide_true, List.getD_cons_zero, hc]
    rw [opv_rd (hr0.idx (j := i) u65 z91 rfl hil)]
    simp only [core1, tyr, execOp, opd, putT, put, nth, und, sizeOf, getO, fieldAddr, List.getElem?_cons_succ, List.getElem?_cons_zero, m1, m2]
    rw [opv_rd (hr0.load (k := i * 72 + 1 + 35) ti29 rfl hx)]
    by_cases hov : 200 < os[i].v.script.length
    · have hc2 : 200 < ((os[i].v.script.length : Nat) : Int) := by omega
      simp only [core1, fgr, execOp, opd, opds, ofValue, putT, put, nth, forgetL, doCall, builtin, one1, bor, binInt, shiftB, intOp, gt_iff_lt, decide_true, (hv.s.bytes h).bLen t29, hc2]
      exact hr _ _ _ _ (List.any_eq_true.2 ⟨_, List.getElem_mem hil, decide_eq_true hov⟩)
    · have hc2 : ¬ 200 < ((os[i].v.script.length : Nat) : Int) := by omega
      simp only [core1, fgr, execOp, opd, opds, ofValue, putT, put, nth, forgetL, doCall, builtin, one1, bor, binInt, shiftB, intOp, wrapI, gt_iff_lt, decide_true, decide_false, (hv.s.bytes h).bLen t29, hc2, hwr]
      refine ih (i + 1) _ _ _ (by omega) ?_
      rw [List.take_add_one, List.getElem?_eq_getElem hil, Option.toList_some, List.any_append, hs]
      simp [overI, hov]
theorem f30 (a : AVal) (os : List OpI) (xs : List AVal) (h : Hp) (n : Nat) (ha : ArgOps a os xs) :
    Wp (callI env (evalW env) 30 [a]) h n fun v' h' n' => v' = .bool (greatI os) ∧ h' = h ∧ n' = n := by
  refine wp_callI ff30 fi30 ?_
  have hr0 := ha.rd h
  simp only [fu30, Try.f30, Option.getD_some, List.replicate, core1, fgr, execOp, opd, opds, ofValue, putT, put, nth, forgetL, doCall, builtin, one1, ended, resultOf, oneOrTup, List.cons_append, List.nil_append, List.length_cons, List.length_nil, Nat.reduceSub, Nat.zero_add, wp_pure, hr0.bLen u65]
  refine loop30 _ _ a os xs h n ha ?_ ?_ os.length 0 _ _ _ (by omega) rfl
  · intro x3 x7 x16 hn
    by_cases h80 : 80 < os.length
    · have hc : 80 < ((os.length : Nat) : Int) := by omega
      simp only [core1, fgr, execOp, opd, opds, ofValue, putT, put, nth, forgetL, doCall, builtin, one1, bor, binInt, shiftB, intOp, gt_iff_lt, decide_true, Bool.or_true, and_self, hr0.bLen u65, hc, greatI, hn, h80]
    · have hc : ¬ 80 < ((os.length : Nat) : Int) := by omega
      simp only [core1, fgr, execOp, opd, opds, ofValue, putT, put, nth, forgetL, doCall, builtin, one1, bor, binInt, shiftB, intOp, gt_iff_lt, decide_true, decide_false, Bool.or_false, and_self, hr0.bLen u65, hc, greatI, hn, h80]
  · intro x3 x7 x16 z hn
    simp only [core1, nth, Bool.true_or, and_self, greatI, hn]
theorem great_false {os : List OpI} (h : greatI os = false) : os.length ≤ 80 ∧ ∀ o ∈ os, o.v.script.length ≤ 200 := by
  unfold greatI at h
  simp only [Bool.or_eq_false_iff, decide_eq_false_iff_not] at h
  refine ⟨by omega, fun o ho => ?_⟩
  by_cases q : 200 < o.v.script.length
  · rw [List.any_eq_true.2 ⟨o, ho, decide_eq_true q⟩] at h; cases h.1
  · omega
/- An index behind calls. -/
section
variable {h : Hp} {n id : Nat} {o : OpI} {sv : AVal}
theorem orow_kind (hr : Row h id (ocells o sv)) : Rd (load env 3 (.ptr id 0)) h n [id] (.int .i64 o.kind) := hr.one rfl ti3 rfl
theorem orow_made (hr : Row h id (ocells o sv)) (ho : o.v.Ok) : Rd (load env 3 (.ptr id 34)) h n [id] (.int .i64 o.v.made) := hr.one ((ocells_v ho (by omega)).trans (vcells_t ho.h 0)) ti3 rfl
theorem orow_at (hr : Row h id (ocells o sv)) (ho : o.v.Ok) : Rd (load env 3 (.ptr id 71)) h n [id] (.int .i64 o.at_) := hr.one (by
  unfold ocells
  rw [List.getElem?_cons_succ, List.getElem?_append_right (by rw [vcells_len ho.h ho.b]; omega), vcells_len ho.h ho.b]; rfl) ti3 rfl
theorem orow_v (hr : Row h id (ocells o sv)) (ho : o.v.Ok) : Rd (load env 31 (.ptr id 1)) h n [id] (.agg (vcells o.v sv)) := by
  have := hr.agg (E := env) (n := n) (off := 1) ti31 rfl (by rw [ocells_len ho]; decide)
  have e : ((ocells o sv).drop 1).take 70 = vcells o.v sv := by
    unfold ocells
    rw [List.drop_one, List.tail_cons, List.take_append_of_le_length (by rw [vcells_len ho.h ho.b]; omega), List.take_of_length_le (by rw [vcells_len ho.h ho.b]; omega)]
  exact e ▸ this
theorem orow_pt (hr : Row h id (ocells o sv)) (ho : o.v.Ok) : Rd (load env 28 (.ptr id 1)) h n [id] (.agg (pcells o.v.hash o.v.pn)) := by
  have := hr.agg (E := env) (n := n) (off := 1) ti28 rfl (by rw [ocells_len ho]; decide)
  have e : ((ocells o sv).drop 1).take 33 = pcells o.v.hash o.v.pn := by
    unfold ocells
    rw [List.drop_one, List.tail_cons, List.take_append_of_le_length (by rw [vcells_len ho.h ho.b]; omega), vcells_p ho.h]
  exact e ▸ this
theorem orow_by (hr : Row h id (ocells o sv)) (ho : o.v.Ok) : Rd (load env 25 (.ptr id 39)) h n [id] (.agg (o.v.by_.map u8)) := by
  have := hr.agg (E := env) (n := n) (off := 39) ti25 rfl (by rw [ocells_len ho]; decide)
  have e : ((ocells o sv).drop 39).take 32 = o.v.by_.map u8 := by
    unfold ocells
    rw [show 39 = 38 + 1 from rfl, List.drop_succ_cons]
    unfold vcells
    rw [List.append_assoc, List.drop_append, List.drop_eq_nil_of_le (by rw [pcells_len ho.h]; omega), pcells_len ho.h]
    show (([] : List AVal) ++ (o.v.by_.map u8 ++ [AVal.int .i64 o.at_])).take 32 = _
    rw [List.nil_append, List.take_append_of_le_length (by simp [ho.b]), List.take_of_length_le (by simp [ho.b])]
  exact e ▸ this
end
theorem dropV_len {L : List Ver} {w : Ver} (r : Rises false L) (hw : w ∈ L) : (dropV L w).length + 1 = L.length := by
  obtain ⟨hp, _⟩ := pos_at r (pos_pos r w) hw
  exact ((delL_perm hp).length_eq.trans rfl).symm
theorem ocells_cell {o : OpI} {sv : AVal} (h : oneCell sv = true) : (ocells o sv).all oneCell = true := by
  unfold ocells
  rw [List.all_cons, List.all_append, vcells_cell h]; rfl
/-- What calls make: so many versions at most, with scripts so long at most. -/
structure Small (L : List Ver) (i : Nat) : Prop where
  len : L.length ≤ i
  s : ∀ v ∈ L, v.script.length ≤ 200
theorem Small.set {L : List Ver} {i : Nat} {w v : Ver} (s : Small L i) (hw : w ∈ L) (hv : v.script = w.script) : Small (setV L w v) (i + 1) :=
  ⟨by rw [setV_len]; have := s.len; omega, fun u hu => by
    rcases setV_mem hu with rfl | hu
    · rw [hv]; exact s.s w hw
    · exact s.s u hu⟩
theorem loop31 (Q : Post0) (ks : List Kf) (a : AVal) (os : List OpI) (xs : List AVal) (K : Nat → Prop) (x : Nat) (h0 : Hp) (ha : ArgOps a os xs) (hl : os.length ≤ 80) (hsc : ∀ o ∈ os, o.v.script.length ≤ 200)
    (hT : ∀ (h : Hp) (n : Nat) (L : List Ver) (x5 x10 x14 x15 x21 x36 x46 : AVal), Ixk K h n x L → Small L os.length → Free h n → (∀ j, K j → h j = h0 j) → Kont env 31 none Q ks (.exit 0) (a :: AVal.junk :: .nilp :: .ptr x 0 :: AVal.junk :: x5 :: AVal.junk :: a :: .int .i64 (os.length : Nat) :: .int .i64 (os.length : Nat) :: x10 :: AVal.junk :: AVal.junk :: AVal.junk :: x14 :: x15 :: AVal.junk :: AVal.junk :: AVal.junk :: AVal.junk :: AVal.junk :: x21 :: AVal.junk :: AVal.junk :: AVal.junk :: AVal.junk :: AVal.junk :: AVal.junk :: AVal.junk :: AVal.junk :: AVal.junk :: AVal.junk :: AVal.junk :: AVal.junk :: AVal.junk :: AVal.junk :: x36 :: AVal.junk :: AVal.junk :: AVal.junk :: AVal.junk :: AVal.junk :: AVal.junk :: AVal.junk :: AVal.junk :: AVal.junk :: x46 :: AVal.junk :: AVal.junk :: AVal.junk :: AVal.junk :: AVal.junk :: AVal.junk :: AVal.junk :: AVal.junk :: AVal.junk :: AVal.junk :: AVal.junk :: []) h n) :
    ∀ (m i : Nat) (h : Hp) (n : Nat) (L : List Ver) (x5 x10 x14 x15 x21 x36 x46 : AVal), i + m = os.length → Ixk K h n x L → Small L i → Free h n → (∀ j, K j → h j = h0 j) →
      Run env 31 none Q (.loop lp31_0) ks (a :: AVal.junk :: .nilp :: .ptr x 0 :: AVal.junk :: x5 :: AVal.junk :: a :: .int .i64 (os.length : Nat) :: .int .i64 (i : Nat) :: x10 :: AVal.junk :: AVal.junk :: AVal.junk :: x14 :: x15 :: AVal.junk :: AVal.junk :: AVal.junk :: AVal.junk :: AVal.junk :: x21 :: AVal.junk :: AVal.junk :: AVal.junk :: AVal.junk :: AVal.junk :: AVal.junk :: AVal.junk :: AVal.junk :: AVal.junk :: AVal.junk :: AVal.junk :: AVal.junk :: AVal.junk :: AVal.junk :: x36 :: AVal.junk :: AVal.junk :: AVal.junk :: AVal.junk :: AVal.junk :: AVal.junk :: AVal.junk :: AVal.junk :: AVal.junk :: x46 :: AVal.junk :: AVal.junk :: AVal.junk :: AVal.junk :: AVal.junk :: AVal.junk :: AVal.junk :: AVal.junk :: AVal.junk :: AVal.junk :: AVal.junk :: []) h n := by
  intro m
  induction m with
  | zero =>
    intro i h n L x5 x10 x14 x15 x21 x36 x46 hm hs hS hf ho
    have : i = os.length := by omega
    subst this
    rw [run_loop]
    have hcc : ¬ (((os.length : Nat) : Int) < ((os.length : Nat) : Int)) := by omega
    simp only [lp31_0, loopsOf, Try.f31, Option.getD_some, core1, fgr, execOp, opd, putT, put, nth, forgetL, bor, binInt, shiftB, intOp, List.nil_append, List.append_nil, decide_true, decide_false, List.getD_cons_zero, hcc]
    exact hT h n L _ _ _ _ _ _ _ hs hS hf ho
  | succ m ih =>
    intro i h n L x5 x10 x14 x15 x21 x36 x46 hm hs hS hf ho
    have hil : i < os.length := by omega
    have hcc : (((i : Nat) : Int) < ((os.length : Nat) : Int)) := by omega
    have w1 : IntKind.i64.wrap (((i : Nat) : Int) + 1) = ((i + 1 : Nat) : Int) := by rw [w64 (by omega) (by omega)]; omega
    obtain ⟨sv, e, hv⟩ := ha.at_ i hil
    have hr0 := ha.rd h
    have hmem : os[i] ∈ os := List.getElem_mem hil
    generalize hoi : os[i] = o at *
    have hld := hr0.agg (E := env) (n := n) (k := i * 72) ti91 rfl (by decide) (by show i * 72 + 72 ≤ _; rw [hr0.length]; omega)
    have hld' : Rd (load env 91 (addrOf (i * 72) a)) h n (rid a) (.agg (ocells o sv)) := by
      have e' : (xs.drop (i * 72)).take 72 = ocells o sv := e
      exact e' ▸ hld
    have svk := (hv.s.bytes h).kind
    rw [run_loop]
    simp only [lp31_0, loopsOf, Try.f31, Option.getD_some, core1, fgr, execOp, opd, putT, put, nth, forgetL, bor, binInt, shiftB, intOp, List.nil_append, List.append_nil, decide_true, List.getD_cons_zero, hcc]
    rw [opv_rd (hr0.idx (j := i) u65 z91 rfl hil)]
    simp only [core1, execOp, opd, putT, put, nth]
    rw [opv_rd hld']
    simp only [core1, execOp, putT, put]
    rw [opv_alloc ti91 rfl]
    simp only [core1, execOp, opd, putT, put, nth, cel]
    refine opv_hold (v := .agg (ocells o sv)) ti91 rfl (ocells_len hv.ok) (ocells_cell svk.2.1) hf fun H1 r1 p1 f1 => ?_
    have s1 := hs.old (n' := n + 1) (by omega) (fun j hj => p1 j (by omega))
    have ho1 : ∀ j, K j → H1 j = h0 j := fun j hj => by rw [p1 j (by have := hs.k hj; omega), ho j hj]
    have hc9 : L.length ≤ 900000 := by have := hS.len; omega
    have hsl : o.v.script.length ≤ 200 := hsc o hmem
    have hS1 : Small L (i + 1) := ⟨by have := hS.len; omega, hS.s⟩
    simp only [core1, tyr, fgr, execOp, opd, putT, put, nth, forgetL, und, sizeOf, getO, moved, fieldAddr, List.getElem?_cons_zero, Nat.zero_add]
    rw [opv_rd (orow_kind r1)]
    simp only [core1, fgr, execOp, opd, ofValue, putT, put, nth, forgetL, bor, binInt, shiftB, intOp, int_beq, decide_true]
    by_cases c0 : o.kind = 0
    · simp only [core1, tyr, execOp, opd, putT, put, nth, und, sizeOf, getO, moved, fieldAddr, List.getElem?_cons_succ, List.getElem?_cons_zero, decide_true, Nat.zero_add, c0]
      rw [opv_rd (orow_v r1 hv.ok)]
      simp only [core1, hkr, execOp, opd, opds, putT, put, nth, doCall, callV_func, List.nil_append, List.append_nil]
      refine opv_callf f1 (f33k o.v sv hv.ok hv.pn (by omega) s1 (hv.s.bytes _) (fun j q => by rw [argB_id hv.s] at q; cases q) hc9 f1) fun v2 h2 n2 hn2 f2 ⟨k2, hh⟩ => ?_
      have ho2 : ∀ j, K j → h2 j = h0 j := fun j hj => by rw [k2 j hj, ho1 j hj]
      rcases hh with ⟨_, e2, s2⟩ | ⟨_, e2, s2⟩
      · subst e2
        simp only [core1, fgr, execOp, opd, ofValue, putT, put, nth, forgetL, bor, binInt, shiftB, intOp, wrapI, decide_true, w1]
        exact ih (i + 1) h2 n2 L _ _ _ _ _ _ _ (by omega) s2 hS1 f2 ho2
      · subst e2
        simp only [core1, fgr, execOp, opd, ofValue, putT, put, nth, forgetL, bor, binInt, shiftB, intOp, wrapI, decide_true, w1]
        exact ih (i + 1) h2 n2 _ _ _ _ _ _ _ _ (by omega) s2 ⟨by rw [putV_len]; have := hS.len; omega, fun u hu => by
          rcases putV_mem.1 hu with rfl | hu
          · exact hsl
          · exact hS.s u hu⟩ f2 ho2
    by_cases c1 : o.kind = 1
    · simp only [core1, tyr, fgr, execOp, opd, ofValue, putT, put, nth, forgetL, und, sizeOf, bor, binInt, shiftB, intOp, getO, moved, fieldAddr, List.getElem?_cons_succ, List.getElem?_cons_zero, Int.reduceEq, decide_true, decide_false, Nat.zero_add, Nat.add_zero, beq_self_eq_true, c1]
      rw [opv_rd (orow_pt r1 hv.ok)]
      simp only [core1, tyr, execOp, opd, putT, put, nth, und, sizeOf, getO, moved, fieldAddr, List.getElem?_cons_succ, List.getElem?_cons_zero, Nat.reduceAdd, Nat.zero_add]
      rw [opv_rd (orow_made r1 hv.ok)]
      simp only [core1, tyr, execOp, opd, putT, put, nth, und, sizeOf, getO, moved, fieldAddr, List.getElem?_cons_succ, List.getElem?_cons_zero, Nat.zero_add]
      rw [opv_rd (orow_at r1 hv.ok)]
      simp only [core1, tyr, execOp, opd, putT, put, nth, und, sizeOf, getO, moved, fieldAddr, List.getElem?_cons_succ, List.getElem?_cons_zero, Nat.reduceAdd, Nat.zero_add]
      rw [opv_rd (orow_by r1 hv.ok)]
      simp only [core1, hkr, execOp, opd, opds, putT, put, nth, doCall, callV_func, List.nil_append, List.append_nil]
      refine opv_callf f1 (f36k o.v.hash o.v.pn o.v.made o.at_ o.v.by_ hv.ok.h hv.ok.b s1 hc9 f1) fun v2 h2 n2 hn2 f2 ⟨k2, hh⟩ => ?_
      have ho2 : ∀ j, K j → h2 j = h0 j := fun j hj => by rw [k2 j hj, ho1 j hj]
      rcases hh with ⟨_, e2, s2⟩ | ⟨w, hw, _, _, _, _, e2, s2⟩
      · subst e2
        simp only [core1, fgr, execOp, opd, ofValue, putT, put, nth, forgetL, bor, binInt, shiftB, intOp, wrapI, decide_true, w1]
        exact ih (i + 1) h2 n2 L _ _ _ _ _ _ _ (by omega) s2 hS1 f2 ho2
      · subst e2
        simp only [core1, fgr, execOp, opd, ofValue, putT, put, nth, forgetL, bor, binInt, shiftB, intOp, wrapI, decide_true, w1]
        exact ih (i + 1) h2 n2 _ _ _ _ _ _ _ _ (by omega) s2 (hS.set hw rfl) f2 ho2
    by_cases c2 : o.kind = 2
    · simp only [core1, tyr, fgr, execOp, opd, ofValue, putT, put, nth, forgetL, und, sizeOf, bor, binInt, shiftB, intOp, getO, moved, fieldAddr, List.getElem?_cons_succ, List.getElem?_cons_zero, int_beq, Int.reduceEq, decide_true, decide_false, Nat.zero_add, Nat.add_zero, beq_self_eq_true, c2]
      rw [opv_rd (orow_pt r1 hv.ok)]
      simp only [core1, tyr, execOp, opd, putT, put, nth, und, sizeOf, getO, moved, fieldAddr, List.getElem?_cons_succ, List.getElem?_cons_zero, Nat.reduceAdd, Nat.zero_add]
      rw [opv_rd (orow_made r1 hv.ok)]
      simp only [core1, hkr, execOp, opd, opds, putT, put, nth, doCall, callV_func, List.nil_append, List.append_nil]
      refine opv_callf f1 (f38k o.v.hash o.v.pn o.v.made hv.ok.h s1 hc9 f1) fun v2 h2 n2 hn2 f2 ⟨k2, hh⟩ => ?_
      have ho2 : ∀ j, K j → h2 j = h0 j := fun j hj => by rw [k2 j hj, ho1 j hj]
      rcases hh with ⟨_, e2, s2⟩ | ⟨w, hw, _, _, e2, s2⟩
      · subst e2
        simp only [core1, fgr, execOp, opd, ofValue, putT, put, nth, forgetL, bor, binInt, shiftB, intOp, wrapI, decide_true, w1]
        exact ih (i + 1) h2 n2 L _ _ _ _ _ _ _ (by omega) s2 hS1 f2 ho2
      · subst e2
        simp only [core1, fgr, execOp, opd, ofValue, putT, put, nth, forgetL, bor, binInt, shiftB, intOp, wrapI, decide_true, w1]
        exact ih (i + 1) h2 n2 _ _ _ _ _ _ _ _ (by omega) s2 (hS.set hw rfl) f2 ho2
    by_cases c3 : o.kind = 3
    · simp only [core1, tyr, fgr, execOp, opd, ofValue, putT, put, nth, forgetL, und, sizeOf, bor, binInt, shiftB, intOp, getO, moved, fieldAddr, List.getElem?_cons_succ, List.getElem?_cons_zero, int_beq, Int.reduceEq, decide_true, decide_false, Nat.zero_add, Nat.add_zero, beq_self_eq_true, c3]
      rw [opv_rd (orow_pt r1 hv.ok)]
      simp only [core1, tyr, execOp, opd, putT, put, nth, und, sizeOf, getO, moved, fieldAddr, List.getElem?_cons_succ, List.getElem?_cons_zero, Nat.reduceAdd, Nat.zero_add]
      rw [opv_rd (orow_made r1 hv.ok)]
      simp only [core1, hkr, execOp, opd, opds, putT, put, nth, doCall, callV_func, List.nil_append, List.append_nil]
      refine opv_callf f1 (f34k o.v.hash o.v.pn o.v.made hv.ok.h s1 hc9 f1) fun v2 h2 n2 hn2 f2 ⟨k2, hh⟩ => ?_
      have ho2 : ∀ j, K j → h2 j = h0 j := fun j hj => by rw [k2 j hj, ho1 j hj]
      rcases hh with ⟨_, e2, s2⟩ | ⟨w, hw, _, e2, s2⟩
      · subst e2
        simp only [core1, fgr, execOp, opd, ofValue, putT, put, nth, forgetL, bor, binInt, shiftB, intOp, wrapI, decide_true, w1]
        exact ih (i + 1) h2 n2 L _ _ _ _ _ _ _ (by omega) s2 hS1 f2 ho2
      · subst e2
        simp only [core1, fgr, execOp, opd, ofValue, putT, put, nth, forgetL, bor, binInt, shiftB, intOp, wrapI, decide_true, w1]
        exact ih (i + 1) h2 n2 _ _ _ _ _ _ _ _ (by omega) s2 ⟨by have := dropV_len hs.rL hw; have := hS.len; omega, fun u hu => hS.s u (dropV_sub hu)⟩ f2 ho2
    simp only [core1, fgr, execOp, opd, ofValue, putT, put, nth, forgetL, bor, binInt, shiftB, intOp, wrapI, int_beq, decide_true, decide_false, c0, c1, c2, c3, w1]
    exact ih (i + 1) H1 (n + 1) L _ _ _ _ _ _ _ (by omega) s1 hS1 f1 ho1
theorem f31 (a : AVal) (os : List OpI) (xs : List AVal) (h : Hp) (n : Nat) (ha : ArgOps a os xs) (hg : greatI os = false) (hf : Free h n) :
    Wp (callI env (evalW env) 31 [a]) h n fun v' h' n' => ∃ x L, v' = .ptr x 0 ∧ n ≤ x ∧ Ixk (fun j => j < n) h' n' x L ∧ Small L 80 ∧ Old h h' n := by
  obtain ⟨g1, g2⟩ := great_false hg
  have hr0 := ha.rd
  refine wp_callI ff31 fi31 ?_
  simp only [fu31, Try.f31, Option.getD_some, List.replicate, core1, fgr, hkr, execOp, opd, opds, ofValue, putT, put, forgetL, doCall, callV_func, ended, resultOf, oneOrTup, List.cons_append, List.nil_append, List.append_nil, List.length_cons, List.length_nil, Nat.reduceSub, Nat.zero_add, wp_pure]
  refine opv_callf hf (f40k h n hf) fun v1 h1 n1 hn1 f1 ⟨x, e1, hx, s1, o1⟩ => ?_
  subst e1
  simp only [core1, fgr, execOp, opd, opds, ofValue, putT, put, nth, forgetL, doCall, builtin, one1, (hr0 h1).bLen u65]
  refine loop31 _ _ a os xs (fun j => j < n) x h1 ha g1 g2 ?_ os.length 0 h1 n1 [] _ _ _ _ _ _ _ (by omega) s1 ⟨Nat.le_refl _, fun v hv => by cases hv⟩ f1 (fun j hj => rfl)
  intro h2 n2 L x5 x10 x14 x15 x21 x36 x46 s2 hS f2 ho
  simp only [core1, fgr, execOp, opd, putT, put, nth, forgetL, true_and]
  exact ⟨x, L, rfl, hx, s2, ⟨by have := hS.len; omega, hS.s⟩, fun j hj => by rw [ho j hj, o1 j hj]⟩
/- Versions that are ended at a height, plainly. -/
theorem eqVr_refl (v : Ver) : eqVr v v = true := by
  unfold eqVr
  simp [show cmpP v.hash v.pn v.hash v.pn = 0 from ordQ.refl v]
theorem eqL_refl : ∀ l : List Ver, eqL l l = true
  | [] => rfl
  | v :: l => by simp only [eqL, eqVr_refl, eqL_refl l, Bool.and_self]
theorem setV_map {L : List Ver} (r : Rises false L) {w : Ver} (hw : w ∈ L) (v : Ver) : setV L w v = L.map fun u => if cmpV u w = 0 then v else u := by
  obtain ⟨hp, hpw⟩ := pos_at r (pos_pos r w) hw
  unfold setV
  refine List.ext_getElem (by simp) fun i h1 h2 => ?_
  rw [List.getElem_set, List.getElem_map]
  have hi : i < L.length := by simpa using h1
  by_cases c : pos false L w = i
  · subst c
    rw [if_pos rfl, if_pos (by rw [hpw]; exact ordV.refl w)]
  · rw [if_neg c, if_neg fun q => ?_]
    have := rises_eq r (List.getElem_mem hi) hw q
    rcases Nat.lt_trichotomy (pos false L w) i with d | d | d
    · have q2 := r.at_ hp hi d
      rw [hpw, this] at q2
      have := ordV.refl w
      have : cmpV w w < 0 := q2
      omega
    · exact c d
    · have q2 := r.at_ hi hp d
      rw [hpw, this] at q2
      have := ordV.refl w
      have : cmpV w w < 0 := q2
      omega
/-- Ended at a height, if it is one of these and is not spent. -/
def ends (ws : List Ver) (s : Int) (b : List UInt8) (u : Ver) : Ver := if ws.any (fun w => decide (cmpV u w = 0)) && decide (u.spent = 0) then endV u s b else u
theorem ends_key (ws : List Ver) (s : Int) (b : List UInt8) (u w : Ver) : cmpV (ends ws s b u) w = cmpV u w := by
  unfold ends
  split <;> rfl
theorem ends_step {L ws : List Ver} (r : Rises false L) {w : Ver} (hw : w ∈ L) {s : Int} {b : List UInt8} (hr : Rises false (L.map (ends ws s b))) (hn : ∀ u ∈ ws, cmpV w u ≠ 0) (h0 : w.spent = 0) :
    w ∈ L.map (ends ws s b) ∧ setV (L.map (ends ws s b)) w (endV w s b) = L.map (ends (ws ++ [w]) s b) := by
  have e0 : ends ws s b w = w := by
    unfold ends
    have : ws.any (fun u => decide (cmpV w u = 0)) = false := by
      rw [List.any_eq_false]
      intro u hu
      simpa using hn u hu
    rw [this]; rfl
  have hm : w ∈ L.map (ends ws s b) := List.mem_map.2 ⟨w, hw, e0⟩
  refine ⟨hm, ?_⟩
  rw [setV_map hr hm, List.map_map]
  refine List.map_congr_left fun u hu => ?_
  rw [Function.comp, ends_key]
  by_cases c : cmpV u w = 0
  · have := rises_eq r hu hw c
    subst this
    rw [if_pos c]
    unfold ends
    rw [List.any_append, List.any_cons, decide_eq_true c, decide_eq_true h0]
    simp
  · rw [if_neg c]
    unfold ends
    rw [List.any_append, List.any_cons, decide_eq_false c, List.any_nil, Bool.or_false, Bool.or_false]
theorem ends_skip {L ws : List Ver} (r : Rises false L) {w : Ver} (hw : w ∈ L) {s : Int} {b : List UInt8} (h0 : w.spent ≠ 0) : L.map (ends ws s b) = L.map (ends (ws ++ [w]) s b) := by
  refine List.map_congr_left fun u hu => ?_
  by_cases c : cmpV u w = 0
  · have := rises_eq r hu hw c
    subst this
    unfold ends
    rw [decide_eq_false h0, Bool.and_false, Bool.and_false]
  · unfold ends
    rw [List.any_append, List.any_cons, decide_eq_false c, List.any_nil, Bool.or_false, Bool.or_false]
theorem there_end {u : Ver} {z : Int} {b : List UInt8} (h : there u z = true) : there (endV u (z + 1) b) z = true := by
  unfold there at *
  simp only [Bool.and_eq_true, Bool.or_eq_true, decide_eq_true_eq] at *
  show u.made ≤ z ∧ (z + 1 = 0 ∨ z < z + 1)
  omega
/-- What is ended at the next height is there at this one all the same. -/
theorem ends_now {L : List Ver} (r : Rises false L) (z : Int) (b : List UInt8) :
    (L.map (ends (L.filter fun v => there v z) (z + 1) b)).filter (fun v => there v z) = (L.filter fun v => there v z).map (fun w => if w.spent = 0 then endV w (z + 1) b else w) := by
  have key : ∀ u ∈ L, ends (L.filter fun v => there v z) (z + 1) b u = if there u z = true ∧ u.spent = 0 then endV u (z + 1) b else u := fun u hu => by
    unfold ends
    have : (L.filter fun v => there v z).any (fun w => decide (cmpV u w = 0)) = there u z := by
      rw [Bool.eq_iff_iff, List.any_eq_true]
      constructor
      · rintro ⟨w, hw, hc⟩
        obtain ⟨h1, h2⟩ := List.mem_filter.1 hw
        have := rises_eq r hu h1 (of_decide_eq_true hc)
        rw [this]; exact h2
      · intro h
        exact ⟨u, List.mem_filter.2 ⟨hu, h⟩, decide_eq_true (ordV.refl u)⟩
    rw [this]
    simp only [Bool.and_eq_true, decide_eq_true_eq]
  rw [List.filter_map]
  have e1 : L.filter ((fun v => there v z) ∘ ends (L.filter fun v => there v z) (z + 1) b) = L.filter fun v => there v z := by
    refine List.filter_congr fun u hu => ?_
    rw [Function.comp, key u hu]
    split
    · rename_i h
      rw [there_end h.1, h.1]
    · rfl
  rw [e1]
  refine List.map_congr_left fun u hu => ?_
  obtain ⟨h1, h2⟩ := List.mem_filter.1 hu
  rw [key u h1]
  simp [h2]
/-- And at the next height there is nothing of these that is not spent later. -/
theorem ends_next {L : List Ver} (r : Rises false L) (g : ∀ v ∈ L, Good v) (z : Int) (b : List UInt8) (hz : 0 ≤ z) {u : Ver} (hu : u ∈ (L.map (ends (L.filter fun v => there v z) (z + 1) b)).filter (fun v => there v (z + 1))) :
    ¬ (u.made ≤ z ∧ u.spent ≤ z + 1) := by
  rintro ⟨h1, h2⟩
  obtain ⟨hm, ht⟩ := List.mem_filter.1 hu
  obtain ⟨w, hw, rfl⟩ := List.mem_map.1 hm
  unfold ends at *
  split at h1
  · rename_i c
    rw [if_pos c] at ht h2
    unfold there endV at ht
    simp only [Bool.and_eq_true, Bool.or_eq_true, decide_eq_true_eq] at ht
    omega
  · rename_i c
    rw [if_neg c] at ht h2
    unfold there at ht
    simp only [Bool.and_eq_true, Bool.or_eq_true, decide_eq_true_eq] at ht
    have h0 : w.spent = 0 := by
      rcases ht.2 with q | q
      · exact q
      · omega
    refine c ?_
    rw [decide_eq_true h0, Bool.and_true, List.any_eq_true]
    refine ⟨w, List.mem_filter.2 ⟨hw, ?_⟩, decide_eq_true (ordV.refl w)⟩
    unfold there
    simp [h0, h1]
/-- One that is made above is not there. -/
theorem put_there {L : List Ver} {v : Ver} {z : Int} (h : there v z = false) : (putV L v).filter (fun u => there u z) = L.filter fun u => there u z := by
  unfold putV insL
  rw [List.filter_append, List.filter_cons, h]
  conv => rhs; rw [← List.take_append_drop (pos false L v) L, List.filter_append]
  simp
/-! Lists of versions -/
theorem VL.keep {h h' : Hp} {a b : Nat} {v : AVal} {vs : List Ver} (l : VL h a b v vs) (hk : ∀ j, a ≤ j → j < b → h' j = h j) : VL h' a b v vs := by
  obtain ⟨cells, c1, c2, c3⟩ := l
  exact ⟨cells, c1.keep fun j q => hk j (c3 j q).1 (c3 j q).2, c2.mono (fun j q => q) (fun j q => hk j q.1 q.2.1), c3⟩
theorem VL.old {h h' : Hp} {a b n : Nat} {v : AVal} {vs : List Ver} (l : VL h a b v vs) (hn : b ≤ n) (hk : Old h h' n) : VL h' a b v vs := l.keep fun j _ q => hk j (by omega)
theorem lists_wp {h : Hp} {n a b c d : Nat} {v w : AVal} {vs ws : List Ver} (lv : VL h a b v vs) (lw : VL h c d w ws) (hb : b ≤ n) (hd : d ≤ n) (hc : vs.length ≤ 10000000) (hf : Free h n) :
    Wp (callI env (evalW env) 35 [v, w]) h n fun v' h' n' => v' = .bool (eqL vs ws) ∧ Old h h' n := by
  obtain ⟨cv, v1, v2, v3⟩ := lv
  obtain ⟨cw, w1, w2, w3⟩ := lw
  exact f35 v w vs ws cv cw (fun j => j < n) h n hc v1.rds w1.rds (v2.mono (fun j q => by have := q.2.1; omega) (fun j q => rfl)) (w2.mono (fun j q => by have := q.2.1; omega) (fun j q => rfl)) (fun j q => by have := v3 j q; omega) (fun j q => by have := w3 j q; omega) (fun j q => q) hf
/-- One of a list, in memory. -/
structure VAt (h : Hp) (a b : Nat) (v : AVal) (k : Nat) (w : Ver) (sw : AVal) : Prop where
  ok : w.Ok
  all : ∀ n, Rd (load env 31 (addrOf k v)) h n (rid v) (.agg (vcells w sw))
  pt : ∀ n, Rd (load env 28 (addrOf k v)) h n (rid v) (.agg (pcells w.hash w.pn))
  made : ∀ n, Rd (load env 3 (addrOf (k + 33) v)) h n (rid v) (.int .i64 w.made)
  spent : ∀ n, Rd (load env 3 (addrOf (k + 37) v)) h n (rid v) (.int .i64 w.spent)
  script : ∀ n, Rd (load env 29 (addrOf (k + 35) v)) h n (rid v) sw
  mv : ∀ k m, moved m (addrOf k v) = M.pure (addrOf (k + m) v)
  s : Bytes h sw w.script
  sn : ∀ j, ownId sw = some j → a ≤ j ∧ j < b
theorem VL.at_ {h : Hp} {a b : Nat} {v : AVal} {vs : List Ver} (l : VL h a b v vs) {i : Nat} (hi : i < vs.length) : ∃ sw, VAt h a b v (i * 70) vs[i] sw := by
  obtain ⟨cells, c1, c2, c3⟩ := l
  obtain ⟨sw, e, bs, o, d⟩ := c2.at_ i hi
  have hr := c1.rds
  have hl : i * 70 + 70 ≤ cells.length := by rw [c2.len]; omega
  have one : ∀ k x, k < 70 → (vcells vs[i] sw)[k]? = some x → cells[i * 70 + k]? = some x := fun k x hk hx => by rw [piece e hk, hx]
  refine ⟨sw, o, fun n => ?_, fun n => ?_, fun n => hr.load ti3 rfl (one 33 _ (by omega) (vcells_t o.h 0)), fun n => hr.load ti3 rfl (one 37 _ (by omega) (vcells_t o.h 4)), fun n => hr.load ti29 rfl (one 35 _ (by omega) (vcells_t o.h 2)), fun k m => moved_adr hr (by omega) k m, bs, fun j q => ⟨(d j q).1, (d j q).2.1⟩⟩
  · have := hr.agg (E := env) (n := n) (k := i * 70) ti31 rfl (by decide) hl
    have e' : (cells.drop (i * 70)).take 70 = vcells vs[i] sw := e
    exact e' ▸ this
  · have := hr.agg (E := env) (n := n) (k := i * 70) ti28 rfl (by decide) (by show i * 70 + 33 ≤ _; omega)
    have e' : (cells.drop (i * 70)).take 33 = pcells vs[i].hash vs[i].pn := by
      rw [← vcells_p (sv := sw) o.h, ← e, List.take_take]; rfl
    exact e' ▸ this
theorem VL.len {h : Hp} {a b : Nat} {v : AVal} {vs : List Ver} (l : VL h a b v vs) {ts : List TypeId} : bLen env (43 :: ts) v = M.pure (.int .i64 (vs.length : Nat)) := by
  obtain ⟨cells, c1, c2, c3⟩ := l
  exact c1.rds.bLen u43
theorem VL.idx {h : Hp} {a b : Nat} {v : AVal} {vs : List Ver} (l : VL h a b v vs) {i : Nat} (hi : i < vs.length) {h' : Hp} {n' : Nat} : Rd (indexAddr env 43 v (.int .i64 ((i : Nat) : Int))) h' n' [] (addrOf (i * 70) v) := by
  obtain ⟨cells, c1, c2, c3⟩ := l
  exact c1.rds.idx u43 z31s rfl hi
/- IndexLater's rounds. -/
def b1 : List UInt8 := 1 :: List.replicate 31 0
theorem build25_1 : build env 25 [(0, .int .u8 1)] = M.pure (.agg (b1.map u8)) := rfl
theorem take_snoc {α : Type} {l : List α} {i : Nat} (h : i < l.length) : l.take (i + 1) = l.take i ++ [l[i]] := by
  rw [List.take_add_one, List.getElem?_eq_getElem h]; rfl
theorem mem_take_lt {L : List Ver} (r : Rises false L) {i : Nat} (hi : i < L.length) : ∀ u ∈ L.take i, cmpV L[i] u ≠ 0 := fun u hu => by
  obtain ⟨j, hj, rfl⟩ := List.mem_iff_getElem.1 hu
  rw [List.length_take] at hj
  rw [List.getElem_take]
  have h1 : cmpV L[j] L[i] < 0 := r.at_ (by omega) hi (by omega)
  have := ordV.anti L[i] L[j]
  omega
theorem loop5_0 (Q : Post0) (ks : List Kf) (v : AVal) (x n3 n4 : Nat) (z : Int) (L ws : List Ver) (K : Nat → Prop) (hK : ∀ j, n3 ≤ j → j < n4 → K j) (rL : Rises false L) (hws : ws = L.filter fun u => there u z) (hz : 0 ≤ z ∧ z ≤ 255) (hl : L.length ≤ 1000)
    (hT : ∀ (h : Hp) (n : Nat) (x0 x1 x2 x4 x12 x13 x14 x16 x29 x54 x58 x75 x81 x82 x83 x123 x128 x129 x130 x131 x144 : AVal), Ixk K h n x (L.map (ends ws (z + 1) b1)) → VL h n3 n4 v ws → n4 ≤ n → Free h n →
      Kont env 5 none Q ks (.exit 0) (x0 :: x1 :: x2 :: AVal.junk :: x4 :: AVal.junk :: .bool false :: .bool true :: .ptr x 0 :: .int .i64 z :: v :: AVal.junk :: x12 :: x13 :: x14 :: AVal.junk :: x16 :: AVal.junk :: AVal.junk :: AVal.junk :: AVal.junk :: AVal.junk :: AVal.junk :: AVal.junk :: AVal.junk :: AVal.junk :: AVal.junk :: AVal.junk :: AVal.junk :: x29 :: AVal.junk :: AVal.junk :: AVal.junk :: AVal.junk :: AVal.junk :: AVal.junk :: AVal.junk :: AVal.junk :: AVal.junk :: AVal.junk :: AVal.junk :: AVal.junk :: AVal.junk :: AVal.junk :: AVal.junk :: AVal.junk :: AVal.junk :: AVal.junk :: AVal.junk :: AVal.junk :: AVal.junk :: AVal.junk :: AVal.junk :: AVal.junk :: x54 :: v :: .int .i64 (ws.length : Nat) :: .int .i64 (ws.length : Nat) :: x58 :: AVal.junk :: AVal.junk :: AVal.junk :: AVal.junk :: AVal.junk :: AVal.junk :: AVal.junk :: AVal.junk :: AVal.junk :: AVal.junk :: AVal.junk :: AVal.junk :: AVal.junk :: AVal.junk :: AVal.junk :: AVal.junk :: x75 :: AVal.junk :: AVal.junk :: AVal.junk :: AVal.junk :: AVal.junk :: x81 :: x82 :: x83 :: AVal.junk :: AVal.junk :: AVal.junk :: AVal.junk :: AVal.junk :: AVal.junk :: AVal.junk :: AVal.junk :: AVal.junk :: AVal.junk :: AVal.junk :: AVal.junk :: AVal.junk :: AVal.junk :: AVal.junk :: AVal.junk :: AVal.junk :: AVal.junk :: AVal.junk :: AVal.junk :: AVal.junk :: AVal.junk :: AVal.junk :: AVal.junk :: AVal.junk :: AVal.junk :: AVal.junk :: AVal.junk :: AVal.junk :: AVal.junk :: AVal.junk :: AVal.junk :: AVal.junk :: AVal.junk :: AVal.junk :: AVal.junk :: AVal.junk :: AVal.junk :: AVal.junk :: x123 :: AVal.junk :: AVal.junk :: AVal.junk :: AVal.junk :: x128 :: x129 :: x130 :: x131 :: AVal.junk :: AVal.junk :: AVal.junk :: AVal.junk :: AVal.junk :: AVal.junk :: AVal.junk :: AVal.junk :: AVal.junk :: AVal.junk :: AVal.junk :: AVal.junk :: x144 :: AVal.junk :: AVal.junk :: AVal.junk :: AVal.junk :: AVal.junk :: AVal.junk :: AVal.junk :: AVal.junk :: AVal.junk :: []) h n) :
    ∀ (m i : Nat) (h : Hp) (n : Nat) (x0 x1 x2 x4 x12 x13 x14 x16 x29 x54 x58 x75 x81 x82 x83 x123 x128 x129 x130 x131 x144 : AVal), i + m = ws.length → Ixk K h n x (L.map (ends (ws.take i) (z + 1) b1)) → VL h n3 n4 v ws → n4 ≤ n → Free h n →
      Run env 5 none Q (.loop lp5_0) ks (x0 :: x1 :: x2 :: AVal.junk :: x4 :: AVal.junk :: .bool false :: .bool true :: .ptr x 0 :: .int .i64 z :: v :: AVal.junk :: x12 :: x13 :: x14 :: AVal.junk :: x16 :: AVal.junk :: AVal.junk :: AVal.junk :: AVal.junk :: AVal.junk :: AVal.junk :: AVal.junk :: AVal.junk :: AVal.junk :: AVal.junk :: AVal.junk :: AVal.junk :: x29 :: AVal.junk :: AVal.junk :: AVal.junk :: AVal.junk :: AVal.junk :: AVal.junk :: AVal.junk :: AVal.junk :: AVal.junk :: AVal.junk :: AVal.junk :: AVal.junk :: AVal.junk :: AVal.junk :: AVal.junk :: AVal.junk :: AVal.junk :: AVal.junk :: AVal.junk :: AVal.junk :: AVal.junk :: AVal.junk :: AVal.junk :: AVal.junk :: x54 :: v :: .int .i64 (ws.length : Nat) :: .int .i64 (i : Nat) :: x58 :: AVal.junk :: AVal.junk :: AVal.junk :: AVal.junk :: AVal.junk :: AVal.junk :: AVal.junk :: AVal.junk :: AVal.junk :: AVal.junk :: AVal.junk :: AVal.junk :: AVal.junk :: AVal.junk :: AVal.junk :: AVal.junk :: x75 :: AVal.junk :: AVal.junk :: AVal.junk :: AVal.junk :: AVal.junk :: x81 :: x82 :: x83 :: AVal.junk :: AVal.junk :: AVal.junk :: AVal.junk :: AVal.junk :: AVal.junk :: AVal.junk :: AVal.junk :: AVal.junk :: AVal.junk :: AVal.junk :: AVal.junk :: AVal.junk :: AVal.junk :: AVal.junk :: AVal.junk :: AVal.junk :: AVal.junk :: AVal.junk :: AVal.junk :: AVal.junk :: AVal.junk :: AVal.junk :: AVal.junk :: AVal.junk :: AVal.junk :: AVal.junk :: AVal.junk :: AVal.junk :: AVal.junk :: AVal.junk :: AVal.junk :: AVal.junk :: AVal.junk :: AVal.junk :: AVal.junk :: AVal.junk :: AVal.junk :: AVal.junk :: x123 :: AVal.junk :: AVal.junk :: AVal.junk :: AVal.junk :: x128 :: x129 :: x130 :: x131 :: AVal.junk :: AVal.junk :: AVal.junk :: AVal.junk :: AVal.junk :: AVal.junk :: AVal.junk :: AVal.junk :: AVal.junk :: AVal.junk :: AVal.junk :: AVal.junk :: x144 :: AVal.junk :: AVal.junk :: AVal.junk :: AVal.junk :: AVal.junk :: AVal.junk :: AVal.junk :: AVal.junk :: AVal.junk :: []) h n := by
  have hwl : ws.length ≤ 1000 := by rw [hws]; exact Nat.le_trans (List.length_filter_le _ _) hl
  have rW : Rises false ws := by rw [hws]; exact rL.sublist List.filter_sublist
  intro m
  induction m with
  | zero =>
    intro i h n x0 x1 x2 x4 x12 x13 x14 x16 x29 x54 x58 x75 x81 x82 x83 x123 x128 x129 x130 x131 x144 hm hs hv hn hf
    have : i = ws.length := by omega
    subst this
    rw [run_loop]
    have hcc : ¬ (((ws.length : Nat) : Int) < ((ws.length : Nat) : Int)) := by omega
    simp only [lp5_0, loopsOf, Try.f5, Option.getD_some, core1, fgr, execOp, opd, putT, put, nth, forgetL, bor, binInt, shiftB, intOp, List.append_eq, List.cons_append, List.nil_append, List.append_nil, decide_true, decide_false, List.getD_cons_zero, hcc]
    rw [List.take_length] at hs
    exact hT h n _ _ _ _ _ _ _ _ _ _ _ _ _ _ _ _ _ _ _ _ _ hs hv hn hf
  | succ m ih =>
    intro i h n x0 x1 x2 x4 x12 x13 x14 x16 x29 x54 x58 x75 x81 x82 x83 x123 x128 x129 x130 x131 x144 hm hs hv hn hf
    have hil : i < ws.length := by omega
    have hcc : (((i : Nat) : Int) < ((ws.length : Nat) : Int)) := by omega
    have w1 : IntKind.i64.wrap (((i : Nat) : Int) + 1) = ((i + 1 : Nat) : Int) := by rw [w64 (by omega) (by omega)]; omega
    have w2 : IntKind.i64.wrap (z + 1) = z + 1 := w64 (by omega) (by omega)
    obtain ⟨sw, va⟩ := hv.at_ hil
    have hall : ∀ w, w ∈ ws → w ∈ L ∧ there w z = true := by
      rw [hws]
      intro w hw
      exact List.mem_filter.1 hw
    have hw := hall _ (List.getElem_mem hil)
    have hkey := mem_take_lt rW hil
    have htk := take_snoc hil
    generalize ws[i] = w at *
    have kd := va.s.kind
    rw [run_loop]
    simp only [lp5_0, loopsOf, Try.f5, Option.getD_some, core1, fgr, execOp, opd, putT, put, nth, forgetL, bor, binInt, shiftB, intOp, List.append_eq, List.cons_append, List.nil_append, List.append_nil, decide_true, List.getD_cons_zero, hcc]
    rw [opv_rd (hv.idx hil)]
    simp only [core1, execOp, opd, putT, put, nth]
    rw [opv_rd (va.all n)]
    simp only [core1, execOp, putT, put]
    rw [opv_alloc ti31 rfl]
    simp only [core1, execOp, opd, putT, put, nth, cel]
    refine opv_hold (v := .agg (vcells w sw)) ti31 rfl (vcells_len va.ok.h va.ok.b) (vcells_cell kd.2.1) hf fun H1 r1 p1 f1 => ?_
    have s1 := hs.old (n' := n + 1) (by omega) (fun j hj => p1 j (by omega))
    have v1 := hv.old hn (fun j hj => p1 j (by omega))
    simp only [core1, tyr, fgr, execOp, opd, putT, put, nth, forgetL, und, sizeOf, getO, moved, fieldAddr, List.getElem?_cons_succ, List.getElem?_cons_zero, Nat.zero_add]
    rw [opv_rd (row_spent r1 va.ok)]
    by_cases c0 : w.spent = 0
    · simp only [core1, tyr, execOp, opd, ofValue, putT, put, nth, und, sizeOf, bor, binInt, shiftB, intOp, getO, moved, fieldAddr, List.getElem?_cons_succ, List.getElem?_cons_zero, decide_true, Nat.zero_add, beq_self_eq_true, c0]
      rw [opv_rd (row_pt r1 va.ok)]
      simp only [core1, tyr, execOp, opd, putT, put, nth, und, sizeOf, getO, moved, fieldAddr, List.getElem?_cons_succ, List.getElem?_cons_zero, Nat.zero_add]
      rw [opv_rd (row_made r1 va.ok)]
      have rM : Rises false (L.map (ends (ws.take i) (z + 1) b1)) := s1.rL
      obtain ⟨hm1, hm2⟩ := ends_step (s := z + 1) (b := b1) rL hw.1 rM hkey c0
      simp only [core1, hkr, execOp, opd, opds, ofValue, ops2, putT, put, nth, doCall, callV_func, bor, binInt, shiftB, intOp, wrapI, List.getElem?_cons_succ, List.getElem?_cons_zero, List.nil_append, List.append_nil, decide_true, w2, build25_1]
      refine opv_callf f1 (f36k w.hash w.pn w.made (z + 1) b1 va.ok.h rfl s1 (by rw [List.length_map]; omega) f1) fun v2 h2 n2 hn2 f2 ⟨k2, hh⟩ => ?_
      have hmz : w.made ≤ z := by
        have := hw.2
        unfold there at this
        simp only [Bool.and_eq_true, decide_eq_true_eq] at this
        exact this.1
      rcases hh with ⟨q, _⟩ | ⟨u, hu, q, _, _, _, e2, s2⟩
      · exfalso
        rcases q w hm1 (key_cmp w) with q | q | q
        · exact q c0
        · omega
        · omega
      subst e2
      have eu : u = w := rises_eq rM hu hm1 (by have := ordV.eqr (d := u) (key_cmp w); show cmpV u w = 0; omega)
      subst eu
      rw [hm2, ← htk] at s2
      have v2 := v1.keep fun j q1 q2 => k2 j (hK j q1 q2)
      simp only [core1, fgr, execOp, opd, ofValue, putT, put, nth, forgetL, bor, binInt, shiftB, intOp, wrapI, doPick, branch, List.getElem?_cons_succ, List.getElem?_cons_zero, decide_true, bne_self_eq_false, w1]
      exact ih (i + 1) h2 n2 _ _ _ _ _ _ _ _ _ _ _ _ _ _ _ _ _ _ _ _ _ (by omega) s2 v2 (by omega) f2
    · simp only [core1, fgr, execOp, opd, ofValue, putT, put, nth, forgetL, bor, binInt, shiftB, intOp, wrapI, doPick, branch, List.getElem?_cons_succ, List.getElem?_cons_zero, int_beq, decide_true, decide_false, c0, w1]
      rw [ends_skip rL hw.1 c0, ← htk] at s1
      exact ih (i + 1) H1 (n + 1) _ _ _ _ _ _ _ _ _ _ _ _ _ _ _ _ _ _ _ _ _ (by omega) s1 v1 (by omega) f1
theorem loop5_1 (Q : Post0) (ks : List Kf) (v u : AVal) (x a b c d : Nat) (z : Int) (ws us : List Ver) (f : Ver → Ver) (hu : us = ws.map f) (hwl : ws.length ≤ 1000) (h : Hp) (n : Nat) (hv : VL h a b v ws) (hu2 : VL h c d u us)
    (hk : ∀ w ∈ ws, (f w).hash = w.hash ∧ (f w).pn = w.pn ∧ (f w).made = w.made ∧ z < (f w).spent)
    (hT : ∀ (x0 x1 x2 x4 x12 x14 x16 x29 x54 x55 x56 x57 x58 x75 x83 x123 x128 x129 x130 x131 x144 : AVal), Kont env 5 none Q ks (.exit 2) (x0 :: x1 :: x2 :: AVal.junk :: x4 :: AVal.junk :: .bool false :: .bool true :: .ptr x 0 :: .int .i64 z :: v :: AVal.junk :: x12 :: u :: x14 :: AVal.junk :: x16 :: AVal.junk :: AVal.junk :: AVal.junk :: AVal.junk :: AVal.junk :: AVal.junk :: AVal.junk :: AVal.junk :: AVal.junk :: AVal.junk :: AVal.junk :: AVal.junk :: x29 :: AVal.junk :: AVal.junk :: AVal.junk :: AVal.junk :: AVal.junk :: AVal.junk :: AVal.junk :: AVal.junk :: AVal.junk :: AVal.junk :: AVal.junk :: AVal.junk :: AVal.junk :: AVal.junk :: AVal.junk :: AVal.junk :: AVal.junk :: AVal.junk :: AVal.junk :: AVal.junk :: AVal.junk :: AVal.junk :: AVal.junk :: AVal.junk :: x54 :: x55 :: x56 :: x57 :: x58 :: AVal.junk :: AVal.junk :: AVal.junk :: AVal.junk :: AVal.junk :: AVal.junk :: AVal.junk :: AVal.junk :: AVal.junk :: AVal.junk :: AVal.junk :: AVal.junk :: AVal.junk :: AVal.junk :: AVal.junk :: AVal.junk :: x75 :: AVal.junk :: AVal.junk :: AVal.junk :: AVal.junk :: AVal.junk :: .int .i64 (ws.length : Nat) :: .int .i64 (ws.length : Nat) :: x83 :: AVal.junk :: AVal.junk :: AVal.junk :: AVal.junk :: AVal.junk :: AVal.junk :: AVal.junk :: AVal.junk :: AVal.junk :: AVal.junk :: AVal.junk :: AVal.junk :: AVal.junk :: AVal.junk :: AVal.junk :: AVal.junk :: AVal.junk :: AVal.junk :: AVal.junk :: AVal.junk :: AVal.junk :: AVal.junk :: AVal.junk :: AVal.junk :: AVal.junk :: AVal.junk :: AVal.junk :: AVal.junk :: AVal.junk :: AVal.junk :: AVal.junk :: AVal.junk :: AVal.junk :: AVal.junk :: AVal.junk :: AVal.junk :: AVal.junk :: AVal.junk :: AVal.junk :: x123 :: AVal.junk :: AVal.junk :: AVal.junk :: AVal.junk :: x128 :: x129 :: x130 :: x131 :: AVal.junk :: AVal.junk :: AVal.junk :: AVal.junk :: AVal.junk :: AVal.junk :: AVal.junk :: AVal.junk :: AVal.junk :: AVal.junk :: AVal.junk :: AVal.junk :: x144 :: AVal.junk :: AVal.junk :: AVal.junk :: AVal.junk :: AVal.junk :: AVal.junk :: AVal.junk :: AVal.junk :: AVal.junk :: []) h n) :
    ∀ (m i : Nat) (x0 x1 x2 x4 x12 x14 x16 x29 x54 x55 x56 x57 x58 x75 x83 x123 x128 x129 x130 x131 x144 : AVal), i + m = ws.length →
      Run env 5 none Q (.loop lp5_1) ks (x0 :: x1 :: x2 :: AVal.junk :: x4 :: AVal.junk :: .bool false :: .bool true :: .ptr x 0 :: .int .i64 z :: v :: AVal.junk :: x12 :: u :: x14 :: AVal.junk :: x16 :: AVal.junk :: AVal.junk :: AVal.junk :: AVal.junk :: AVal.junk :: AVal.junk :: AVal.junk :: AVal.junk :: AVal.junk :: AVal.junk :: AVal.junk :: AVal.junk :: x29 :: AVal.junk :: AVal.junk :: AVal.junk :: AVal.junk :: AVal.junk :: AVal.junk :: AVal.junk :: AVal.junk :: AVal.junk :: AVal.junk :: AVal.junk :: AVal.junk :: AVal.junk :: AVal.junk :: AVal.junk :: AVal.junk :: AVal.junk :: AVal.junk :: AVal.junk :: AVal.junk :: AVal.junk :: AVal.junk :: AVal.junk :: AVal.junk :: x54 :: x55 :: x56 :: x57 :: x58 :: AVal.junk :: AVal.junk :: AVal.junk :: AVal.junk :: AVal.junk :: AVal.junk :: AVal.junk :: AVal.junk :: AVal.junk :: AVal.junk :: AVal.junk :: AVal.junk :: AVal.junk :: AVal.junk :: AVal.junk :: AVal.junk :: x75 :: AVal.junk :: AVal.junk :: AVal.junk :: AVal.junk :: AVal.junk :: .int .i64 (ws.length : Nat) :: .int .i64 (i : Nat) :: x83 :: AVal.junk :: AVal.junk :: AVal.junk :: AVal.junk :: AVal.junk :: AVal.junk :: AVal.junk :: AVal.junk :: AVal.junk :: AVal.junk :: AVal.junk :: AVal.junk :: AVal.junk :: AVal.junk :: AVal.junk :: AVal.junk :: AVal.junk :: AVal.junk :: AVal.junk :: AVal.junk :: AVal.junk :: AVal.junk :: AVal.junk :: AVal.junk :: AVal.junk :: AVal.junk :: AVal.junk :: AVal.junk :: AVal.junk :: AVal.junk :: AVal.junk :: AVal.junk :: AVal.junk :: AVal.junk :: AVal.junk :: AVal.junk :: AVal.junk :: AVal.junk :: AVal.junk :: x123 :: AVal.junk :: AVal.junk :: AVal.junk :: AVal.junk :: x128 :: x129 :: x130 :: x131 :: AVal.junk :: AVal.junk :: AVal.junk :: AVal.junk :: AVal.junk :: AVal.junk :: AVal.junk :: AVal.junk :: AVal.junk :: AVal.junk :: AVal.junk :: AVal.junk :: x144 :: AVal.junk :: AVal.junk :: AVal.junk :: AVal.junk :: AVal.junk :: AVal.junk :: AVal.junk :: AVal.junk :: AVal.junk :: []) h n := by
  have hul : us.length = ws.length := by rw [hu, List.length_map]
  intro m
  induction m with
  | zero =>
    intro i x0 x1 x2 x4 x12 x14 x16 x29 x54 x55 x56 x57 x58 x75 x83 x123 x128 x129 x130 x131 x144 hm
    have : i = ws.length := by omega
    subst this
    rw [run_loop]
    have hcc : ¬ (((ws.length : Nat) : Int) < ((ws.length : Nat) : Int)) := by omega
    simp only [lp5_1, loopsOf, Try.f5, Option.getD_some, core1, fgr, execOp, opd, putT, put, nth, forgetL, bor, binInt, shiftB, intOp, List.append_eq, List.cons_append, List.nil_append, List.append_nil, decide_true, decide_false, List.getD_cons_zero, List.getD_cons_succ, hcc]
    exact hT _ _ _ _ _ _ _ _ _ _ _ _ _ _ _ _ _ _ _ _ _
  | succ m ih =>
    intro i x0 x1 x2 x4 x12 x14 x16 x29 x54 x55 x56 x57 x58 x75 x83 x123 x128 x129 x130 x131 x144 hm
    have hil : i < ws.length := by omega
    have hiu : i < us.length := by omega
    have hcc : (((i : Nat) : Int) < ((ws.length : Nat) : Int)) := by omega
    have hcu : ¬ (((us.length : Nat) : Int) ≤ ((i : Nat) : Int)) := by omega
    have w1 : IntKind.i64.wrap (((i : Nat) : Int) + 1) = ((i + 1 : Nat) : Int) := by rw [w64 (by omega) (by omega)]; omega
    obtain ⟨sw, va⟩ := hv.at_ hil
    obtain ⟨su, ua⟩ := hu2.at_ hiu
    have eu : us[i] = f ws[i] := by simp [hu]
    have hkk := hk ws[i] (List.getElem_mem hil)
    have hne := neq28 us[i].hash ws[i].hash us[i].pn ws[i].pn ua.ok.h va.ok.h
    rw [eu, hkk.1, hkk.2.1] at hne
    have e1 : (!(decide (ws[i].hash = ws[i].hash) && (ws[i].pn == ws[i].pn))) = false := by simp
    rw [e1] at hne
    have pt := ua.pt n
    have md := ua.made n
    have sp := ua.spent n
    rw [eu, hkk.1, hkk.2.1] at pt
    rw [eu, hkk.2.2.1] at md
    rw [eu] at sp
    have hsp : ¬ (f ws[i]).spent ≤ z := by omega
    have mva := va.mv
    have mua := ua.mv
    rw [run_loop]
    simp only [lp5_1, loopsOf, Try.f5, Option.getD_some, core1, fgr, execOp, opd, putT, put, nth, forgetL, bor, binInt, shiftB, intOp, List.append_eq, List.cons_append, List.nil_append, List.append_nil, decide_true, List.getD_cons_zero, List.getD_cons_succ, hcc]
    refine run_draw.2 ⟨rfl, ?_⟩
    simp only [fe_cons, fe_guard, fego_some, feg_bool, feg_ff, fev_pure, execOp, opd, opds, putT, put, nth, doCall, builtin, one1, binInt, shiftB, intOp, List.getElem?_cons_succ, List.getElem?_cons_zero, Nat.reduceAdd, ge_iff_le, decide_true, decide_false, Nat.zero_add, hu2.len, hcu, bo_int]
    rw [fev_rd (hu2.idx hiu)]
    simp only [fe_guard, fego_some, feg_bool, feg_ff, fev_pure, core1, tyr, execOp, opd, putT, put, nth, und, sizeOf, getO, fieldAddr, List.getElem?_cons_succ, List.getElem?_cons_zero, Nat.reduceAdd, Nat.add_zero, mua]
    rw [fev_rd pt]
    simp only [fe_guard, fego_some, feg_bool, feg_ff, fev_pure, execOp, opd, putT, put, nth, List.getElem?_cons_succ, List.getElem?_cons_zero, Nat.reduceAdd]
    rw [fev_rd (hv.idx hil)]
    simp only [fe_guard, fego_some, feg_bool, feg_ff, fev_pure, core1, tyr, execOp, opd, putT, put, nth, und, sizeOf, getO, fieldAddr, List.getElem?_cons_succ, List.getElem?_cons_zero, Nat.reduceAdd, Nat.add_zero, mva]
    rw [fev_rd (va.pt n)]
    simp only [fe_cons, fe_guard, fego_some, feg_bool, feg_ff, fev_ask, fev_pure, execOp, opd, ofValue, putT, put, nth, doPick, branch, List.getElem?_cons_succ, List.getElem?_cons_zero, Nat.reduceAdd, hne]
    rw [fev_rd (hu2.idx hiu)]
    simp only [fe_guard, fego_some, feg_bool, feg_ff, fev_pure, core1, tyr, execOp, opd, putT, put, nth, und, sizeOf, getO, fieldAddr, List.getElem?_cons_succ, List.getElem?_cons_zero, Nat.reduceAdd, mua]
    rw [fev_rd md]
    simp only [fe_guard, fego_some, feg_bool, feg_ff, fev_pure, execOp, opd, putT, put, nth, List.getElem?_cons_succ, List.getElem?_cons_zero, Nat.reduceAdd]
    rw [fev_rd (hv.idx hil)]
    simp only [fe_guard, fego_some, feg_bool, feg_ff, fev_pure, core1, tyr, execOp, opd, putT, put, nth, und, sizeOf, getO, fieldAddr, List.getElem?_cons_succ, List.getElem?_cons_zero, Nat.reduceAdd, mva]
    rw [fev_rd (va.made n)]
    simp only [fe_cons, fe_guard, fego_some, feg_bool, feg_ff, fev_ask, fev_pure, execOp, opd, ofValue, putT, put, nth, binInt, shiftB, intOp, doPick, branch, List.getElem?_cons_succ, List.getElem?_cons_zero, Nat.reduceAdd, decide_true, bne_self_eq_false, bo_int]
    rw [fev_rd (hu2.idx hiu)]
    simp only [fe_guard, fego_some, feg_bool, feg_ff, fev_pure, core1, tyr, execOp, opd, putT, put, nth, und, sizeOf, getO, fieldAddr, List.getElem?_cons_succ, List.getElem?_cons_zero, Nat.reduceAdd, mua]
    rw [fev_rd sp]
    simp only [fe_nil, fe_cons, fe_guard, fego_some, feg_bool, feg_ff, fev_ask, fev_pure, core1, fgr, execOp, opd, ofValue, putT, put, nth, forgetL, binInt, shiftB, intOp, wrapI, doPick, branch, List.getElem?_cons_succ, List.getElem?_cons_zero, Nat.reduceAdd, decide_true, decide_false, bo_int, hsp]
    refine ⟨(by (try simp (disch := first | assumption | omega) only [fine, List.all_cons, List.all_nil, clash_pr, clash_rr, Bool.not_false, Bool.true_or, Bool.and_true]); repeat' (first | rfl | exact (Bool.or_eq_true _ _).mpr (.inr rfl) | refine (Bool.and_eq_true _ _).mpr ⟨?_, ?_⟩)), ?_⟩
    simp only [w1]
    exact ih (i + 1) _ _ _ _ _ _ _ _ _ _ _ _ _ _ _ _ _ _ _ _ _ (by omega)
theorem loop5_2 (Q : Post0) (ks : List Kf) (v u1 u2 : AVal) (x a b : Nat) (z : Int) (ws : List Ver) (hwl : ws.length ≤ 1000) (hz : 0 ≤ z ∧ z ≤ 255)
    (hk : ∀ w ∈ ws, ¬ (w.made ≤ z ∧ w.spent ≤ z + 1)) (A : Hp → Prop) (n0 : Nat) (hA : ∀ h h' n, n0 ≤ n → A h → (∀ j, j < n → h' j = h j) → A h')
    (hT : ∀ (h : Hp) (n : Nat) (x0 x1 x2 x4 x8 x12 x14 x16 x29 x54 x55 x56 x57 x58 x75 x81 x82 x83 x123 x131 x144 : AVal), A h → Free h n → Kont env 5 none Q ks (.exit 4) (x0 :: x1 :: x2 :: AVal.junk :: x4 :: AVal.junk :: .bool false :: .bool true :: x8 :: .int .i64 z :: u1 :: AVal.junk :: x12 :: u2 :: x14 :: AVal.junk :: x16 :: AVal.junk :: AVal.junk :: AVal.junk :: AVal.junk :: AVal.junk :: AVal.junk :: AVal.junk :: AVal.junk :: AVal.junk :: AVal.junk :: AVal.junk :: AVal.junk :: x29 :: AVal.junk :: AVal.junk :: AVal.junk :: AVal.junk :: AVal.junk :: AVal.junk :: AVal.junk :: AVal.junk :: AVal.junk :: AVal.junk :: AVal.junk :: AVal.junk :: AVal.junk :: AVal.junk :: AVal.junk :: AVal.junk :: AVal.junk :: AVal.junk :: AVal.junk :: AVal.junk :: AVal.junk :: AVal.junk :: AVal.junk :: AVal.junk :: x54 :: x55 :: x56 :: x57 :: x58 :: AVal.junk :: AVal.junk :: AVal.junk :: AVal.junk :: AVal.junk :: AVal.junk :: AVal.junk :: AVal.junk :: AVal.junk :: AVal.junk :: AVal.junk :: AVal.junk :: AVal.junk :: AVal.junk :: AVal.junk :: AVal.junk :: x75 :: AVal.junk :: AVal.junk :: AVal.junk :: AVal.junk :: AVal.junk :: x81 :: x82 :: x83 :: AVal.junk :: AVal.junk :: AVal.junk :: AVal.junk :: AVal.junk :: AVal.junk :: AVal.junk :: AVal.junk :: AVal.junk :: AVal.junk :: AVal.junk :: AVal.junk :: AVal.junk :: AVal.junk :: AVal.junk :: AVal.junk :: AVal.junk :: AVal.junk :: AVal.junk :: AVal.junk :: AVal.junk :: AVal.junk :: AVal.junk :: AVal.junk :: AVal.junk :: AVal.junk :: AVal.junk :: AVal.junk :: AVal.junk :: AVal.junk :: AVal.junk :: AVal.junk :: AVal.junk :: AVal.junk :: AVal.junk :: AVal.junk :: AVal.junk :: AVal.junk :: AVal.junk :: x123 :: AVal.junk :: AVal.junk :: AVal.junk :: AVal.junk :: v :: .int .i64 (ws.length : Nat) :: .int .i64 (ws.length : Nat) :: x131 :: AVal.junk :: AVal.junk :: AVal.junk :: AVal.junk :: AVal.junk :: AVal.junk :: AVal.junk :: AVal.junk :: AVal.junk :: AVal.junk :: AVal.junk :: AVal.junk :: x144 :: AVal.junk :: AVal.junk :: AVal.junk :: AVal.junk :: AVal.junk :: AVal.junk :: AVal.junk :: AVal.junk :: AVal.junk :: []) h n) :
    ∀ (m i : Nat) (h : Hp) (n : Nat) (x0 x1 x2 x4 x8 x12 x14 x16 x29 x54 x55 x56 x57 x58 x75 x81 x82 x83 x123 x131 x144 : AVal), i + m = ws.length → A h → VL h a b v ws → b ≤ n → n0 ≤ n → Free h n →
      Run env 5 none Q (.loop lp5_2) ks (x0 :: x1 :: x2 :: AVal.junk :: x4 :: AVal.junk :: .bool false :: .bool true :: x8 :: .int .i64 z :: u1 :: AVal.junk :: x12 :: u2 :: x14 :: AVal.junk :: x16 :: AVal.junk :: AVal.junk :: AVal.junk :: AVal.junk :: AVal.junk :: AVal.junk :: AVal.junk :: AVal.junk :: AVal.junk :: AVal.junk :: AVal.junk :: AVal.junk :: x29 :: AVal.junk :: AVal.junk :: AVal.junk :: AVal.junk :: AVal.junk :: AVal.junk :: AVal.junk :: AVal.junk :: AVal.junk :: AVal.junk :: AVal.junk :: AVal.junk :: AVal.junk :: AVal.junk :: AVal.junk :: AVal.junk :: AVal.junk :: AVal.junk :: AVal.junk :: AVal.junk :: AVal.junk :: AVal.junk :: AVal.junk :: AVal.junk :: x54 :: x55 :: x56 :: x57 :: x58 :: AVal.junk :: AVal.junk :: AVal.junk :: AVal.junk :: AVal.junk :: AVal.junk :: AVal.junk :: AVal.junk :: AVal.junk :: AVal.junk :: AVal.junk :: AVal.junk :: AVal.junk :: AVal.junk :: AVal.junk :: AVal.junk :: x75 :: AVal.junk :: AVal.junk :: AVal.junk :: AVal.junk :: AVal.junk :: x81 :: x82 :: x83 :: AVal.junk :: AVal.junk :: AVal.junk :: AVal.junk :: AVal.junk :: AVal.junk :: AVal.junk :: AVal.junk :: AVal.junk :: AVal.junk :: AVal.junk :: AVal.junk :: AVal.junk :: AVal.junk :: AVal.junk :: AVal.junk :: AVal.junk :: AVal.junk :: AVal.junk :: AVal.junk :: AVal.junk :: AVal.junk :: AVal.junk :: AVal.junk :: AVal.junk :: AVal.junk :: AVal.junk :: AVal.junk :: AVal.junk :: AVal.junk :: AVal.junk :: AVal.junk :: AVal.junk :: AVal.junk :: AVal.junk :: AVal.junk :: AVal.junk :: AVal.junk :: AVal.junk :: x123 :: AVal.junk :: AVal.junk :: AVal.junk :: AVal.junk :: v :: .int .i64 (ws.length : Nat) :: .int .i64 (i : Nat) :: x131 :: AVal.junk :: AVal.junk :: AVal.junk :: AVal.junk :: AVal.junk :: AVal.junk :: AVal.junk :: AVal.junk :: AVal.junk :: AVal.junk :: AVal.junk :: AVal.junk :: x144 :: AVal.junk :: AVal.junk :: AVal.junk :: AVal.junk :: AVal.junk :: AVal.junk :: AVal.junk :: AVal.junk :: AVal.junk :: []) h n := by
  intro m
  induction m with
  | zero =>
    intro i h n x0 x1 x2 x4 x8 x12 x14 x16 x29 x54 x55 x56 x57 x58 x75 x81 x82 x83 x123 x131 x144 hm ha hv hb hn hf
    have : i = ws.length := by omega
    subst this
    rw [run_loop]
    have hcc : ¬ (((ws.length : Nat) : Int) < ((ws.length : Nat) : Int)) := by omega
    simp only [lp5_2, loopsOf, Try.f5, Option.getD_some, core1, fgr, execOp, opd, putT, put, nth, forgetL, bor, binInt, shiftB, intOp, List.append_eq, List.cons_append, List.nil_append, List.append_nil, decide_true, decide_false, List.getD_cons_zero, List.getD_cons_succ, hcc]
    exact hT h n _ _ _ _ _ _ _ _ _ _ _ _ _ _ _ _ _ _ _ _ _ ha hf
  | succ m ih =>
    intro i h n x0 x1 x2 x4 x8 x12 x14 x16 x29 x54 x55 x56 x57 x58 x75 x81 x82 x83 x123 x131 x144 hm ha hv hb hn hf
    have hil : i < ws.length := by omega
    have hcc : (((i : Nat) : Int) < ((ws.length : Nat) : Int)) := by omega
    have w1 : IntKind.i64.wrap (((i : Nat) : Int) + 1) = ((i + 1 : Nat) : Int) := by rw [w64 (by omega) (by omega)]; omega
    have w2 : IntKind.i64.wrap (z + 1) = z + 1 := w64 (by omega) (by omega)
    obtain ⟨sw, va⟩ := hv.at_ hil
    have hkk := hk ws[i] (List.getElem_mem hil)
    generalize ws[i] = w at *
    have kd := va.s.kind
    rw [run_loop]
    simp only [lp5_2, loopsOf, Try.f5, Option.getD_some, core1, fgr, execOp, opd, putT, put, nth, forgetL, bor, binInt, shiftB, intOp, List.append_eq, List.cons_append, List.nil_append, List.append_nil, decide_true, List.getD_cons_zero, List.getD_cons_succ, hcc]
    rw [opv_rd (hv.idx hil)]
    simp only [core1, execOp, opd, putT, put, nth]
    rw [opv_rd (va.all n)]
    simp only [core1, execOp, putT, put]
    rw [opv_alloc ti31 rfl]
    simp only [core1, execOp, opd, putT, put, nth, cel]
    refine opv_hold (v := .agg (vcells w sw)) ti31 rfl (vcells_len va.ok.h va.ok.b) (vcells_cell kd.2.1) hf fun H1 r1 p1 f1 => ?_
    have v1 := hv.old hb (fun j hj => p1 j (by omega))
    have a1 := hA h H1 n hn ha (fun j hj => p1 j (by omega))
    simp only [core1, tyr, fgr, execOp, opd, putT, put, nth, forgetL, und, sizeOf, getO, moved, fieldAddr, List.getElem?_cons_succ, List.getElem?_cons_zero, Nat.zero_add]
    rw [opv_rd (row_made r1 va.ok)]
    by_cases c0 : w.made ≤ z
    · have c1 : ¬ w.spent ≤ z + 1 := fun q => hkk ⟨c0, q⟩
      simp only [core1, tyr, execOp, opd, putT, put, nth, und, sizeOf, bor, binInt, shiftB, intOp, getO, moved, fieldAddr, List.getElem?_cons_succ, List.getElem?_cons_zero, decide_true, Nat.zero_add, c0]
      rw [opv_rd (row_spent r1 va.ok)]
      simp only [core1, fgr, execOp, opd, ofValue, putT, put, nth, forgetL, bor, binInt, shiftB, intOp, wrapI, doPick, branch, List.getElem?_cons_succ, List.getElem?_cons_zero, decide_true, decide_false, w2, c1, w1]
      exact ih (i + 1) H1 (n + 1) _ _ _ _ _ _ _ _ _ _ _ _ _ _ _ _ _ _ _ _ _ (by omega) a1 v1 (by omega) (by omega) f1
    · simp only [core1, fgr, execOp, opd, ofValue, putT, put, nth, forgetL, bor, binInt, shiftB, intOp, wrapI, doPick, branch, List.getElem?_cons_succ, List.getElem?_cons_zero, decide_true, decide_false, c0, w1]
      exact ih (i + 1) H1 (n + 1) _ _ _ _ _ _ _ _ _ _ _ _ _ _ _ _ _ _ _ _ _ (by omega) a1 v1 (by omega) (by omega) f1
/- IndexLater. -/
theorem vsplice_made {w : Ver} {sv : AVal} (h : w.hash.length = 32) (s : Int) : splice (vcells w sv) 33 [.int .i64 s] = vcells { w with made := s } sv := by
  have e : vcells w sv = pcells w.hash w.pn ++ ([.int .i64 w.made] ++ ([.int .i64 w.value, sv, .bool w.base, .int .i64 w.spent] ++ w.by_.map u8)) := by simp [vcells, vtail]
  rw [e, splice_mid (mid := [.int .i64 w.made]) (vs := [.int .i64 s]) (pcells_len h) rfl]
  simp [vcells, vtail]
theorem law5 (v0 : AVal) (hv0 : Arg Try.prog 65 [v0]) (v1 : List AVal) (hv1 : Arg Try.prog 31 v1) (a2 : Int) (w2 : (Lit.int .u8 a2).wf = true) :
    Wp (callI env (evalW env) 5 [v0, .agg v1, .int .u8 a2]) (fun _ => none) 0 fun v _ _ => v = .bool true := by
  obtain ⟨os, xs, ha⟩ := arg_ops hv0
  obtain ⟨v, sv, rfl, av⟩ := arg_ver hv1
  have hz : 0 ≤ a2 ∧ a2 ≤ 255 := by
    simp only [Lit.wf, Bool.and_eq_true, decide_eq_true_eq] at w2
    exact w2
  refine wp_callI ff5 fi5 ?_
  simp only [fu5, Try.f5, Option.getD_some, List.replicate, core1, execOp, opd, nth, ended, resultOf, oneOrTup, List.append_eq, List.cons_append, List.nil_append, List.length_cons, List.length_nil, Nat.reduceAdd, Nat.reduceSub, Nat.zero_add, wp_pure]
  refine opv_box (v := .agg (vcells v sv)) ti31 rfl Free.none fun H1 r1 o1 f1 => ?_
  replace r1 : Row H1 0 (vcells v sv) := r1
  simp only [core1, fgr, hkr, execOp, opd, opds, ofValue, putT, put, forgetL, doCall, callV_func, List.append_nil, Nat.zero_add]
  refine opv_callf f1 (f29 H1 _ f1) fun v2 h2 n2 hn2 f2 ⟨e2, o2⟩ => ?_
  subst e2
  have r2 := r1.keep (o2 0 (by omega))
  simp only [core1, fgr, hkr, execOp, opd, opds, putT, put, nth, forgetL, doCall, callV_func, List.nil_append, List.append_nil]
  refine opv_same (f30 v0 os xs h2 n2 ha) ?_
  cases hg : greatI os with
  | true =>
    simp only [core1, fgr, execOp, opd, ofValue, putT, put, nth, forgetL, doPick, branch, List.getElem?_cons_succ, List.getElem?_cons_zero, and_self]
  | false =>
  simp only [core1, tyr, execOp, opd, putT, put, nth, und, sizeOf, getO, moved, fieldAddr, List.getElem?_cons_succ, List.getElem?_cons_zero, Nat.zero_add]
  rw [opv_rd (row_script r2 av.ok)]
  simp only [core1, execOp, opd, opds, ofValue, putT, put, nth, doCall, builtin, one1, bor, binInt, shiftB, intOp, doPick, branch, List.getElem?_cons_succ, List.getElem?_cons_zero, gt_iff_lt, decide_true, (av.s.bytes h2).bLen t29]
  by_cases hov : 200 < v.script.length
  · have hc2 : 200 < ((v.script.length : Nat) : Int) := by omega
    simp only [core1, fgr, execOp, opd, ofValue, putT, put, nth, forgetL, doPick, branch, List.getElem?_cons_succ, List.getElem?_cons_zero, decide_true, and_self, hc2]
  have hc2 : ¬ 200 < ((v.script.length : Nat) : Int) := by omega
  simp only [core1, fgr, hkr, execOp, opd, opds, ofValue, putT, put, nth, forgetL, doCall, callV_func, unOp, doPick, branch, List.getElem?_cons_succ, List.getElem?_cons_zero, List.nil_append, List.append_nil, decide_false, Bool.not_true, hc2]
  refine opv_callf f2 (f31 v0 os xs h2 n2 ha hg f2) fun v3 h3 n3 hn3 f3 ⟨x, L, e3, hx, s3, S3, o3⟩ => ?_
  subst e3
  have r3 := r2.keep (o3 0 (by omega))
  have wz : IntKind.i64.wrap a2 = a2 := w64 (by omega) (by omega)
  simp only [core1, tyr, fgr, hkr, execOp, opd, opds, putT, put, nth, forgetL, doCall, callV_func, und, lenOf, wrapI, strK, intK, List.nil_append, List.append_nil, convert, convStr, isU8, wz]
  have len3 : L.length ≤ 900000 := by have := S3.len; omega
  refine opv_callf f3 (f39k a2 s3 len3 f3) fun v4 h4 n4 hn4 f4 ⟨l4, o4⟩ => ?_
  have r4 := r3.keep (o4 0 (by omega))
  simp only [core1, tyr, fgr, execOp, opd, ofValue, putT, put, nth, forgetL, und, sizeOf, lenOf, bor, binInt, shiftB, intOp, wrapI, strK, intK, getO, moved, fieldAddr, List.getElem?_cons_succ, List.getElem?_cons_zero, Int.reduceNe, decide_true, true_and, Nat.zero_add, convert, convStr, isU8, wz]
  have wz1 : IntKind.i64.wrap (a2 + 1) = a2 + 1 := w64 (by omega) (by omega)
  have tm : 0 ≤ a2.tmod 5 ∧ a2.tmod 5 ≤ 4 := by
    rw [Int.tmod_eq_emod_of_nonneg hz.1]; omega
  have wz2 : IntKind.i64.wrap (a2 + 1 + a2.tmod 5) = a2 + 1 + a2.tmod 5 := w64 (by omega) (by omega)
  rw [wz1, wz2]
  obtain ⟨m, hm⟩ : ∃ m, m = a2 + 1 + a2.tmod 5 := ⟨_, rfl⟩
  rw [← hm]
  have hma : a2 < m := by omega
  clear hm
  obtain ⟨e4, r4⟩ := r4
  rw [opv_wr (Row.write (v := .int .i64 m) r4 ti3 rfl (by show 33 + 1 ≤ (vcells v sv).length; rw [vcells_len av.ok.h av.ok.b]; decide) rfl)]
  have q1 : splice (vcells v sv) 33 (AVal.int .i64 m).cells = vcells { v with made := m } sv := vsplice_made av.ok.h m
  rw [q1]
  simp only [core1, tyr, execOp, opd, ofValue, putT, put, nth, und, sizeOf, getO, moved, fieldAddr, List.getElem?_cons_succ, List.getElem?_cons_zero, Nat.zero_add]
  rw [opv_wr (Row.write (v := .int .i64 0) (upd_same _ _ _) ti3 rfl (by show 37 + 1 ≤ (vcells { v with made := m } sv).length; rw [vcells_len (v := { v with made := m }) av.ok.h av.ok.b]; decide) rfl)]
  have q2 : splice (vcells { v with made := m } sv) 37 (AVal.int .i64 0).cells = vcells { v with made := m, spent := 0 } sv := vsplice_spent (w := { v with made := m }) av.ok.h 0
  rw [q2]
  obtain ⟨nv, hnv⟩ : ∃ nv : Ver, nv = { v with made := m, spent := 0 } := ⟨_, rfl⟩
  rw [← hnv]
  have nok : nv.Ok := by rw [hnv]; exact ⟨av.ok.h, av.ok.b⟩
  have npn : 0 ≤ nv.pn := by rw [hnv]; exact av.pn
  have nscr : nv.script = v.script := by rw [hnv]
  have nth0 : there nv a2 = false := by rw [hnv]; unfold there; simp; omega
  clear hnv q1 q2
  obtain ⟨H5, hH5⟩ : ∃ H5, H5 = upd (upd h4 0 (some (Blk.row (Cont.l (vcells { v with made := m } sv)) e4))) 0 (some (Blk.row (Cont.l (vcells nv sv)) e4)) := ⟨_, rfl⟩
  rw [← hH5]
  have o5 : ∀ j, j ≠ 0 → H5 j = h4 j := fun j hj => by rw [hH5, upd_ne _ _ hj, upd_ne _ _ hj]
  have r5 : Row H5 0 (vcells nv sv) := by rw [hH5]; exact Row.new _ _ _ _
  have f5 : Free H5 n4 := by rw [hH5]; exact (f4.upd (by omega)).upd (by omega)
  clear hH5
  simp only [core1, fgr, execOp, opd, putT, put, nth, forgetL]
  rw [opv_rd (row_all r5 nok)]
  simp only [core1, hkr, execOp, opd, opds, putT, put, nth, doCall, callV_func, List.nil_append, List.append_nil]
  -- what stays: the argument's copy, and what was there
  have s4 := s3.grow hn4 o4
  have k0 : (0 < n2) ∨ (n3 ≤ 0 ∧ 0 < n4) := .inl (by omega)
  have s5 : Ixk (fun j => j < n2 ∨ (n3 ≤ j ∧ j < n4)) H5 n4 x L := s4.touch fun j hj => o5 j fun q => by subst q; exact hj k0
  have vl5 : VL H5 n3 n4 v4 (L.filter fun u => there u a2) := by
    obtain ⟨cells, c1, c2, c3⟩ := l4
    exact ⟨cells, c1.keep fun j q => o5 j (by have := c3 j q; omega), c2.mono (fun j q => q) (fun j q => o5 j (by omega)), c3⟩
  refine opv_callf f5 (f33k nv sv nok npn (by rw [nscr]; omega) s5 (by rw [nscr]; exact av.s.bytes _) (fun j q => by rw [argB_id av.s] at q; cases q) len3 f5) fun v6 h6 n6 hn6 f6 ⟨k6, hh⟩ => ?_
  have hL' : ∃ L', Ixk (fun j => j < n2 ∨ (n3 ≤ j ∧ j < n4)) h6 n6 x L' ∧ (L'.filter fun u => there u a2) = (L.filter fun u => there u a2) ∧ L'.length ≤ 81 := by
    rcases hh with ⟨_, _, s6⟩ | ⟨_, _, s6⟩
    · exact ⟨L, s6, rfl, by have := S3.len; omega⟩
    · exact ⟨_, s6, put_there nth0, by rw [putV_len]; have := S3.len; omega⟩
  obtain ⟨L', s6, eF, len6⟩ := hL'
  have vl6 : VL h6 n3 n4 v4 (L'.filter fun u => there u a2) := by
    rw [eF]
    obtain ⟨cells, c1, c2, c3⟩ := vl5
    exact ⟨cells, c1.keep fun j q => k6 j (.inr (c3 j q)), c2.mono (fun j q => q) (fun j q => k6 j (.inr ⟨q.1, q.2.1⟩)), c3⟩
  clear hh
  simp only [core1, fgr, hkr, execOp, opd, opds, putT, put, nth, forgetL, doCall, callV_func, List.nil_append, List.append_nil]
  refine opv_callf f6 (f39k a2 s6 (by omega) f6) fun v7 h7 n7 hn7 f7 ⟨l7, o7⟩ => ?_
  rw [eF] at vl6
  rw [eF] at l7
  have vl7 := vl6.old (by omega) o7
  have s7 := s6.old hn7 o7
  have wl : (L.filter fun u => there u a2).length ≤ 80 := Nat.le_trans (List.length_filter_le _ _) S3.len
  simp only [core1, hkr, execOp, opd, opds, putT, put, nth, doCall, callV_func, List.nil_append, List.append_nil]
  refine opv_callf f7 (lists_wp l7 vl7 (Nat.le_refl _) (by omega) (by omega) f7) fun v8 h8 n8 hn8 f8 ⟨e8, o8⟩ => ?_
  subst e8
  have vl8 := vl7.old (by omega) o8
  have s8 := s7.old hn8 o8
  simp only [core1, fgr, execOp, opd, opds, ofValue, putT, put, nth, forgetL, doCall, builtin, one1, unOp, Bool.not_true, eqL_refl, vl8.len]
  have rL' := s8.rL
  have g' := s8.g
  obtain ⟨ws, hws⟩ : ∃ ws, ws = L.filter fun u => there u a2 := ⟨_, rfl⟩
  have hws' : ws = L'.filter fun u => there u a2 := hws.trans eF.symm
  rw [← hws] at vl8 wl
  rw [← hws]
  have idm : L'.map (ends (ws.take 0) (a2 + 1) b1) = L' := by
    rw [List.take_zero]
    exact (List.map_congr_left fun u _ => rfl).trans (List.map_id' L')
  refine loop5_0 _ _ v4 x n3 n4 a2 L' ws (fun j => j < n2 ∨ (n3 ≤ j ∧ j < n4)) (fun j h1 h2 => .inr ⟨h1, h2⟩) rL' hws' hz (by omega) ?_ ws.length 0 h8 n8 _ _ _ _ _ _ _ _ _ _ _ _ _ _ _ _ _ _ _ _ _ (by omega) (by rw [idm]; exact s8) vl8 (by omega) f8
  intro h9 n9 x0 x1 x2 x4 x12 x13 x14 x16 x29 x54 x58 x75 x81 x82 x83 x123 x128 x129 x130 x131 x144 s9 vl9 k9 f9
  simp only [core1, hkr, execOp, opd, opds, putT, put, nth, doCall, callV_func, List.nil_append, List.append_nil]
  refine opv_callf f9 (f39k a2 s9 (by rw [List.length_map]; omega) f9) fun v10 h10 n10 hn10 f10 ⟨l10, o10⟩ => ?_
  have en := ends_now rL' a2 b1
  rw [← hws'] at en
  rw [en] at l10
  have vl10 := vl9.old k9 o10
  have s10 := s9.old hn10 o10
  simp only [core1, fgr, execOp, opd, opds, ofValue, putT, put, nth, forgetL, doCall, builtin, one1, vl10.len]
  refine loop5_1 _ _ v4 v10 x n3 n4 n9 n10 a2 ws _ (fun w => if w.spent = 0 then endV w (a2 + 1) b1 else w) rfl (by omega) h10 n10 vl10 l10 ?_ ?_ ws.length 0 _ _ _ _ _ _ _ _ _ _ _ _ _ _ _ _ _ _ _ _ _ (by omega)
  · intro w hw
    rw [hws'] at hw
    have ht := (List.mem_filter.1 hw).2
    unfold there at ht
    simp only [Bool.and_eq_true, Bool.or_eq_true, decide_eq_true_eq] at ht
    by_cases c : w.spent = 0
    · show (if w.spent = 0 then endV w (a2 + 1) b1 else w).hash = w.hash ∧ (if w.spent = 0 then endV w (a2 + 1) b1 else w).pn = w.pn ∧ (if w.spent = 0 then endV w (a2 + 1) b1 else w).made = w.made ∧ a2 < (if w.spent = 0 then endV w (a2 + 1) b1 else w).spent
      rw [if_pos c]
      exact ⟨rfl, rfl, rfl, by show a2 < a2 + 1; omega⟩
    · show (if w.spent = 0 then endV w (a2 + 1) b1 else w).hash = w.hash ∧ (if w.spent = 0 then endV w (a2 + 1) b1 else w).pn = w.pn ∧ (if w.spent = 0 then endV w (a2 + 1) b1 else w).made = w.made ∧ a2 < (if w.spent = 0 then endV w (a2 + 1) b1 else w).spent
      rw [if_neg c]
      exact ⟨rfl, rfl, rfl, by omega⟩
  intro x0 x1 x2 x4 x12 x14 x16 x29 x54 x55 x56 x57 x58 x75 x83 x123 x128 x129 x130 x131 x144
  simp only [core1, hkr, execOp, opd, opds, ofValue, putT, put, nth, doCall, callV_func, bor, binInt, shiftB, intOp, wrapI, List.nil_append, List.append_nil, decide_true, wz1]
  refine opv_callf f10 (f39k (a2 + 1) s10 (by rw [List.length_map]; omega) f10) fun v11 h11 n11 hn11 f11 ⟨l11, o11⟩ => ?_
  have vl11 := vl10.old (by omega) o11
  have ll11 := l10.old (Nat.le_refl _) o11
  simp only [core1, fgr, execOp, opd, opds, ofValue, putT, put, nth, forgetL, doCall, builtin, one1, l11.len]
  have wl2 : ((L'.map (ends ws (a2 + 1) b1)).filter fun v => there v (a2 + 1)).length ≤ 1000 := Nat.le_trans (List.length_filter_le _ _) (by rw [List.length_map]; omega)
  refine loop5_2 _ _ v11 v4 v10 x n10 n11 a2 _ wl2 hz (fun w hw => ?_) (fun h => VL h n3 n4 v4 ws ∧ VL h n9 n10 v10 (ws.map fun w => if w.spent = 0 then endV w (a2 + 1) b1 else w)) n10 (fun h h' n hn hA hk => ⟨hA.1.old (by omega) hk, hA.2.old hn hk⟩) ?_ ((L'.map (ends ws (a2 + 1) b1)).filter fun v => there v (a2 + 1)).length 0 h11 n11 _ _ _ _ _ _ _ _ _ _ _ _ _ _ _ _ _ _ _ _ _ (by omega) ⟨vl11, ll11⟩ l11 (Nat.le_refl _) (by omega) f11
  · rw [hws'] at hw
    exact ends_next rL' g' a2 b1 hz.1 hw
  intro h12 n12 x0 x1 x2 x4 x8 x12 x14 x16 x29 x54 x55 x56 x57 x58 x75 x81 x82 x83 x123 x131 x144 hA f12
  simp only [core1, fgr, execOp, opd, opds, ofValue, putT, put, nth, forgetL, doCall, builtin, one1, bor, binInt, shiftB, intOp, doPick, branch, List.getElem?_cons_succ, List.getElem?_cons_zero, decide_true, and_self, beq_self_eq_true, hA.1.len, hA.2.len, List.length_map]
end Go.Am.Ytlgebaofkolkoaa
