/- The functions that the statement reaches, gone through. -/
import Derived.Test.YtlgebaofkolkoaaIxOrC
set_option linter.unusedSimpArgs false
set_option linter.unusedVariables false
set_option linter.defProp false
set_option maxRecDepth 10000
namespace Go.Am.Ytlgebaofkolkoaa
open Go Go.Am Go.Proofs
theorem f29 (h : Hp) (n : Nat) (hf : Free h n) : Wp (callI env (evalW env) 29 []) h n fun v' h' n' => v' = .bool true ∧ Old h h' n := by
  refine wp_callI ff29 fi29 ?_
  simp only [fu29, Try.f29, Option.getD_some, List.replicate, core1, fgr, hkr, execOp, opd, opds, ofValue, putT, put, forgetL, doCall, callV_func, ended, resultOf, oneOrTup, List.append_eq, List.cons_append, List.nil_append, List.append_nil, List.length_nil, Nat.reduceSub, wp_pure]
  refine opv_callf hf (f40k h n hf) fun v1 h1 n1 hn1 f1 ⟨x, e1, hx, s1, o1⟩ => ?_
  subst e1
  simp only [core1, tyr, execOp, opd, ofValue, ops2, putT, put, und, cel, getO, List.cons_append, List.nil_append, List.append_nil, List.length_cons, List.length_nil, Nat.beq, Bool.not_false, Bool.and_true, Bool.true_and, Nat.zero_add, Nat.zero_mul, buildSlice, reps, fill, List.take_zero, List.drop_succ_cons, List.drop_zero, Nat.ble, Nat.one_mul, List.length_cons, List.length_nil, Nat.zero_mul]
  refine opv_row ti5 f1 (f := fun id => AVal.sl id 0 1 (some 1) 1) fun H2 r2 o2 f2 => ?_
  have hb2 : Bytes H2 (.sl n1 0 1 (some 1) 1) [81] := Bytes.fresh (l := [81]) r2
  have s2 := s1.grow (n' := n1 + 1) (by omega) (fun j hj => o2 j (by omega))
  have old2 : Old h H2 n := fun j hj => by rw [o2 j (by omega), o1 j hj]
  have kd : AVal.cells (.sl n1 0 1 (some 1) 1) = [.sl n1 0 1 (some 1) 1] ∧ oneCell (.sl n1 0 1 (some 1) 1) = true ∧ isJunk (.sl n1 0 1 (some 1) 1) = false := ⟨rfl, rfl, rfl⟩
  have Kn : ∀ j, j < n ∨ j = n1 → (j < n ∨ (n1 ≤ j ∧ j < n1 + 1)) := fun j q => by omega
  replace s2 := s2.sub Kn
  simp only [core1, fgr, hkr, execOp, opd, opds, ofValue, ops2, putT, put, nth, forgetL, doCall, callV_func, List.nil_append, List.append_nil, build31m kd]
  refine opv_callf f2 (f33k (exv 3 0) _ ⟨rfl, rfl⟩ (by decide) (by decide) s2 hb2 (fun j q => by injection q with q; omega) (by decide) f2) fun v3 h3 n3 hn3 f3 ⟨k3, hh⟩ => ?_
  rcases hh with ⟨q, _⟩ | ⟨_, e3, s3⟩
  · exact absurd q ex1
  subst e3
  rw [ex2] at s3
  have hb3 := hb2.keep (h' := h3) fun j q => k3 j (by injection q with q; exact .inr q.symm)
  simp only [core1, hkr, execOp, opd, opds, ofValue, ops2, putT, put, nth, doCall, callV_func, List.nil_append, List.append_nil, build31m kd]
  refine opv_callf f3 (f33k (exv 3 0) _ ⟨rfl, rfl⟩ (by decide) (by decide) s3 hb3 (fun j q => by injection q with q; omega) (by decide) f3) fun v4 h4 n4 hn4 f4 ⟨k4, hh⟩ => ?_
  rcases hh with ⟨_, e4, s4⟩ | ⟨q, _⟩
  rotate_left
  · exact absurd ex3 q
  subst e4
  have hb4 := hb3.keep (h' := h4) fun j q => k4 j (by injection q with q; exact .inr q.symm)
  simp only [core1, hkr, execOp, opd, opds, ofValue, ops2, putT, put, nth, doCall, callV_func, List.nil_append, List.append_nil, build31v kd]
  refine opv_callf f4 (f33k (exv 5 7) _ ⟨rfl, rfl⟩ (by decide) (by decide) s4 hb4 (fun j q => by injection q with q; omega) (by decide) f4) fun v5 h5 n5 hn5 f5 ⟨k5, hh⟩ => ?_
  rcases hh with ⟨q, _⟩ | ⟨_, e5, s5⟩
  · exact absurd q ex4
  subst e5
  rw [ex5] at s5
  have hb5 := hb4.keep (h' := h5) fun j q => k5 j (by injection q with q; exact .inr q.symm)
  have old5 : Old h h5 n := fun j hj => by rw [k5 j (.inl hj), k4 j (.inl hj), k3 j (.inl hj), old2 j hj]
  simp only [core1, fgr, hkr, execOp, opd, opds, ofValue, ops2, putT, put, nth, forgetL, doCall, callV_func, List.nil_append, List.append_nil, build28z, build25_9]
  refine opv_callf f5 (f36k z0 0 3 4 b9 rfl rfl s5 (by decide) f5) fun v6 h6 n6 hn6 f6 ⟨k6, hh⟩ => ?_
  rcases hh with ⟨q, _⟩ | ⟨w, hw, q, _, _, _, e6, s6⟩
  · have := q (exv 3 0) List.mem_cons_self ex7
    rcases this with q | q | q
    · exact absurd rfl q
    · exact absurd q (by decide)
    · exact absurd q (by decide)
  subst e6
  have ew : w = exv 3 0 := by
    rcases List.mem_cons.1 hw with q' | q'
    · exact q'
    · rw [List.mem_singleton.1 q'] at q
      exact absurd q ex8
  subst ew
  rw [ex6] at s6
  have hb6 := hb5.keep (h' := h6) fun j q => k6 j (by injection q with q; exact .inr q.symm)
  have old6 : Old h h6 n := fun j hj => by rw [k6 j (.inl hj), old5 j hj]
  simp only [core1, fgr, hkr, execOp, opd, opds, ofValue, ops2, putT, put, nth, forgetL, doCall, callV_func, List.nil_append, List.append_nil, build28z]
  refine opv_callf f6 (f37k z0 0 3 rfl s6 (by decide) f6) fun v7 h7 n7 hn7 f7 ⟨o7, sA, e7, okA, bA, iA⟩ => ?_
  subst e7
  rw [ex9] at okA bA
  simp only [core1, execOp, opd, putT, put, nth, extract, getO, List.getElem?_cons_succ, List.getElem?_cons_zero, ex9, Option.getD_some, Option.isSome_some]
  rw [opv_alloc ti31 rfl]
  simp only [core1, execOp, opd, putT, put, nth, cel]
  refine opv_hold (v := .agg (vcells (endV (exv 3 0) 4 b9) sA)) ti31 rfl (vcells_len okA.h okA.b) (vcells_cell bA.kind.2.1) f7 fun H7 r7 p7 f7' => ?_
  simp only [core1, fgr, hkr, execOp, opd, opds, ofValue, ops2, putT, put, nth, forgetL, doCall, callV_func, List.nil_append, List.append_nil, build28z]
  have s7 := (s6.old hn7 o7).grow (n' := n7 + 1) (by omega) (fun j hj => p7 j (by omega))
  refine opv_callf f7' (f37k z0 0 4 rfl s7 (by decide) f7') fun v8 h8 n8 hn8 f8 ⟨o8, sB, e8, okB, bB, iB⟩ => ?_
  subst e8
  rw [ex10] at okB bB
  simp only [core1, execOp, opd, putT, put, nth, extract, getO, List.getElem?_cons_succ, List.getElem?_cons_zero, ex10, Option.getD_none, Option.isSome_none]
  rw [opv_alloc ti31 rfl]
  simp only [core1, execOp, opd, putT, put, nth, cel]
  refine opv_hold (v := .agg (vcells noV sB)) ti31 rfl (vcells_len okB.h okB.b) (vcells_cell bB.kind.2.1) f8 fun H8 r8 p8 f8' => ?_
  simp only [core1, fgr, hkr, execOp, opd, opds, ofValue, ops2, putT, put, nth, forgetL, doCall, callV_func, List.nil_append, List.append_nil, build28z]
  have s8 := (s7.old hn8 o8).old (n' := n8 + 1) (by omega) (fun j hj => p8 j (by omega))
  refine opv_callf f8' (f37k z0 0 5 rfl s8 (by decide) f8') fun v9 h9 n9 hn9 f9 ⟨o9, sC, e9, okC, bC, iC⟩ => ?_
  subst e9
  rw [ex11] at okC bC
  simp only [core1, execOp, opd, putT, put, nth, extract, getO, List.getElem?_cons_succ, List.getElem?_cons_zero, ex11, Option.getD_some, Option.isSome_some]
  rw [opv_alloc ti31 rfl]
  simp only [core1, execOp, opd, putT, put, nth, cel]
  refine opv_hold (v := .agg (vcells (exv 5 7) sC)) ti31 rfl (vcells_len okC.h okC.b) (vcells_cell bC.kind.2.1) f9 fun H9 r9 p9 f9' => ?_
  have s9 := (s8.old hn9 o9).grow (n' := n9 + 1) (by omega) (fun j hj => p9 j (by omega))
  have old9 : Old h H9 n := fun j hj => by rw [p9 j (by omega), o9 j (by omega), p8 j (by omega), o8 j (by omega), p7 j (by omega), o7 j (by omega), old6 j hj]
  have hb9 := hb6.keep (h' := H9) fun j q => by
    injection q with q; subst q
    rw [p9 _ (by omega), o9 _ (by omega), p8 _ (by omega), o8 _ (by omega), p7 _ (by omega), o7 _ (by omega)]
  have rA : Row H9 n7 (vcells (endV (exv 3 0) 4 b9) sA) := r7.keep (by rw [p9 _ (by omega), o9 _ (by omega), p8 _ (by omega), o8 _ (by omega)])
  simp only [core1, fgr, hkr, execOp, opd, opds, ofValue, ops2, putT, put, nth, forgetL, doCall, callV_func, List.nil_append, List.append_nil, build28z]
  refine opv_callf f9' (f38k z0 0 5 rfl s9 (by decide) f9') fun v10 h10 n10 hn10 f10 ⟨k10, hh⟩ => ?_
  rcases hh with ⟨_, e10, s10⟩ | ⟨w, hw, q, q2, _⟩
  rotate_left
  · exfalso
    rcases List.mem_cons.1 hw with q' | q'
    · rw [q'] at q
      exact absurd q ex12
    · rw [List.mem_singleton.1 q'] at q2
      exact absurd rfl q2
  subst e10
  simp only [core1, hkr, execOp, opd, opds, ofValue, ops2, putT, put, nth, doCall, callV_func, List.nil_append, List.append_nil, build28z]
  refine opv_callf f10 (f38k z0 0 3 rfl s10 (by decide) f10) fun v11 h11 n11 hn11 f11 ⟨k11, hh⟩ => ?_
  rcases hh with ⟨q, _⟩ | ⟨w, hw, q, q2, e11, s11⟩
  · have := q (endV (exv 3 0) 4 b9) List.mem_cons_self ex14
    exact absurd this (by decide)
  subst e11
  have ew : w = endV (exv 3 0) 4 b9 := by
    rcases List.mem_cons.1 hw with q' | q'
    · exact q'
    · rw [List.mem_singleton.1 q'] at q2
      exact absurd rfl q2
  subst ew
  rw [ex15] at s11
  have kk : ∀ j, (j < n ∨ j = n1) ∨ j = n7 ∨ j = n9 → h11 j = H9 j := fun j q => by
    have q' : ((j < n ∨ j = n1) ∨ n7 ≤ j ∧ j < n7 + 1) ∨ n9 ≤ j ∧ j < n9 + 1 := by
      rcases q with q | q | q
      · exact .inl (.inl q)
      · exact .inl (.inr (by omega))
      · exact .inr (by omega)
    rw [k11 j q', k10 j q']
  have old11 : Old h h11 n := fun j hj => by rw [kk j (.inl (.inl hj)), old9 j hj]
  have hb11 := hb9.keep (h' := h11) fun j q => kk j (by injection q with q; exact .inl (.inr q.symm))
  have rA' := rA.keep (kk n7 (.inr (.inl rfl)))
  have rC' := r9.keep (kk n9 (.inr (.inr rfl)))
  simp only [core1, tyr, fgr, execOp, opd, ofValue, putT, put, nth, forgetL, und, sizeOf, bor, binInt, shiftB, intOp, doPick, branch, getO, moved, fieldAddr, List.getElem?_cons_succ, List.getElem?_cons_zero, decide_true, Nat.zero_add, beq_self_eq_true]
  rw [opv_rd (row_made rA' okA)]
  simp only [core1, tyr, execOp, opd, ofValue, putT, put, nth, und, sizeOf, bor, binInt, shiftB, intOp, doPick, branch, getO, moved, fieldAddr, List.getElem?_cons_succ, List.getElem?_cons_zero, decide_true, Nat.zero_add, beq_self_eq_true, show (endV (exv 3 0) 4 b9).made = 3 from rfl]
  rw [opv_rd (row_spent rA' okA)]
  simp only [core1, tyr, execOp, opd, ofValue, putT, put, nth, und, sizeOf, bor, binInt, shiftB, intOp, unOp, doPick, branch, getO, moved, fieldAddr, List.getElem?_cons_succ, List.getElem?_cons_zero, decide_true, Bool.not_false, Nat.zero_add, beq_self_eq_true, show (endV (exv 3 0) 4 b9).spent = 4 from rfl]
  rw [opv_rd (row_value rC' okC)]
  simp only [core1, hkr, execOp, opd, opds, ofValue, putT, put, nth, doCall, callV_func, bor, binInt, shiftB, intOp, doPick, branch, List.getElem?_cons_succ, List.getElem?_cons_zero, List.nil_append, List.append_nil, decide_true, beq_self_eq_true, show (exv 5 7).value = 7 from rfl]
  refine opv_callf f11 (f43k _ [81] 9 s11 hb11 (fun j q => by injection q with q; omega) (by decide) f11) fun v12 h12 n12 hn12 f12 ⟨l12, o12⟩ => ?_
  obtain ⟨cells, c1, c2, c3⟩ := l12
  rw [ex16] at c1
  have bl := c1.rds.bLen (E := env) (ts := []) u43
  simp only [core1, fgr, execOp, opd, opds, ofValue, putT, put, nth, forgetL, doCall, builtin, one1, bor, binInt, shiftB, intOp, doPick, branch, List.getElem?_cons_succ, List.getElem?_cons_zero, int_beq, decide_true, true_and, bl]
  exact ⟨rfl, fun j hj => by rw [o12 j (by omega), old11 j hj]⟩
/- Versions and calls as arguments; what is more than statements go through. -/
theorem k5 : Try.prog.cellsOf 5 = 1 := by kernel_rfl
theorem k2 : Try.prog.cellsOf 2 = 1 := by kernel_rfl
theorem k3 : Try.prog.cellsOf 3 = 1 := by kernel_rfl
theorem k4 : Try.prog.cellsOf 4 = 1 := by kernel_rfl
theorem k25 : Try.prog.cellsOf 25 = 32 := by kernel_rfl
theorem k26 : Try.prog.cellsOf 26 = 1 := by kernel_rfl
theorem k28 : Try.prog.cellsOf 28 = 33 := by kernel_rfl
theorem k29 : Try.prog.cellsOf 29 = 1 := by kernel_rfl
theorem k31 : Try.prog.cellsOf 31 = 70 := by kernel_rfl
theorem k91 : Try.prog.cellsOf 91 = 72 := by kernel_rfl
theorem ty_u8 (b : UInt8) : toByte (u8 b) = b := by simp [toByte, u8]
theorem arg_hash {vs : List AVal} (ha : Arg Try.prog 25 vs) : ∃ l : List UInt8, vs = l.map u8 ∧ l.length = 32 := by
  obtain ⟨hl, he⟩ := ha.array_inv Try.underlying25
  rw [k25] at hl
  refine ⟨vs.map toByte, ?_, by simpa using hl⟩
  rw [List.map_map]
  refine List.ext_getElem (by simp) fun i h1 h2 => ?_
  have q := he i (by omega)
  rw [k5, Nat.mul_one] at q
  obtain ⟨z, e, hw⟩ := q.int_inv Try.underlying5
  have e' : vs[i] = .int .u8 z := by
    have : ((vs.drop i).take 1)[0]? = some vs[i] := by simp [List.getElem?_drop, h1]
    rw [e] at this
    simpa using this.symm
  rw [List.getElem_map, Function.comp, e']
  have : AVal.int .u8 z = u8 (byteOf z) := by rw [u8, byteOf_eq hw]
  rw [this, ty_u8]
theorem chop (vs : List AVal) (a k : Nat) : vs.drop a = (vs.drop a).take k ++ vs.drop (a + k) := by
  rw [← List.drop_drop, List.take_append_drop]
theorem arg_point {vs : List AVal} (ha : Arg Try.prog 28 vs) : ∃ (hash : List UInt8) (pn : Int), vs = pcells hash pn ∧ hash.length = 32 ∧ 0 ≤ pn := by
  obtain ⟨hl, he⟩ := ha.struct_inv Try.underlying28
  rw [k28] at hl
  have q0 : Arg Try.prog 25 ((vs.drop 0).take (Try.prog.cellsOf 25)) := he 0 _ rfl
  have q1 : Arg Try.prog 26 ((vs.drop 32).take (Try.prog.cellsOf 26)) := he 1 _ rfl
  rw [k25] at q0
  rw [k26] at q1
  obtain ⟨hash, e0, hh⟩ := arg_hash q0
  obtain ⟨pn, e1, hw⟩ := q1.int_inv Try.underlying26
  refine ⟨hash, pn, ?_, hh, ?_⟩
  · have c0 := chop vs 0 32
    have c1 := chop vs (0 + 32) 1
    rw [List.drop_zero] at c0
    rw [List.drop_zero] at e0
    rw [e0, c1, e1, List.drop_eq_nil_of_le (show vs.length ≤ 0 + 32 + 1 by omega)] at c0
    rw [c0]; rfl
  · simp only [Lit.wf, Bool.and_eq_true, decide_eq_true_eq] at hw
    exact hw.1
/-- A version that was handed in. -/
structure ArgVer (v : Ver) (sv : AVal) : Prop where
  ok : v.Ok
  pn : 0 ≤ v.pn
  s : ArgBytes sv v.script
  sl : v.script.length ≤ maxLen
  m : (Lit.int .i64 v.made).wf = true
theorem argB_id {v : AVal} {l : List UInt8} (hv : ArgBytes v l) : ownId v = none := by
  cases hi : ownId v with
  | none => rfl
  | some j => exact absurd (below_own (hv.below 0) hi) (Nat.not_lt_zero j)
theorem arg_ver {vs : List AVal} (ha : Arg Try.prog 31 vs) : ∃ v sv, vs = vcells v sv ∧ ArgVer v sv := by
  obtain ⟨hl, he⟩ := ha.struct_inv Try.underlying31
  rw [k31] at hl
  have q0 : Arg Try.prog 28 ((vs.drop 0).take (Try.prog.cellsOf 28)) := he 0 _ rfl
  have q1 : Arg Try.prog 3 ((vs.drop 33).take (Try.prog.cellsOf 3)) := he 1 _ rfl
  have q2 : Arg Try.prog 2 ((vs.drop 34).take (Try.prog.cellsOf 2)) := he 2 _ rfl
  have q3 : Arg Try.prog 29 ((vs.drop 35).take (Try.prog.cellsOf 29)) := he 3 _ rfl
  have q4 : Arg Try.prog 4 ((vs.drop 36).take (Try.prog.cellsOf 4)) := he 4 _ rfl
  have q5 : Arg Try.prog 3 ((vs.drop 37).take (Try.prog.cellsOf 3)) := he 5 _ rfl
  have q6 : Arg Try.prog 25 ((vs.drop 38).take (Try.prog.cellsOf 25)) := he 6 _ rfl
  rw [k28] at q0
  rw [k3] at q1 q5
  rw [k2] at q2
  rw [k29] at q3
  rw [k4] at q4
  rw [k25] at q6
  obtain ⟨hash, pn, e0, hh, hp⟩ := arg_point q0
  obtain ⟨made, e1, w1⟩ := q1.int_inv Try.underlying3
  obtain ⟨value, e2, w2⟩ := q2.int_inv Try.underlying2
  have e3 : ∃ sv, (vs.drop 35).take 1 = [sv] := by
    have : ((vs.drop 35).take 1).length = 1 := by simp; omega
    exact List.length_eq_one_iff.1 this
  obtain ⟨sv, e3⟩ := e3
  rw [e3] at q3
  obtain ⟨script, hb, hbl⟩ := arg_bytes Try.underlying29 Try.underlying5 k5 q3
  obtain ⟨base, e4⟩ := q4.bool_inv Try.underlying4
  obtain ⟨spent, e5, w5⟩ := q5.int_inv Try.underlying3
  obtain ⟨by_, e6, hby⟩ := arg_hash q6
  refine ⟨⟨hash, pn, made, value, script, base, spent, by_⟩, sv, ?_, ⟨⟨hh, hby⟩, hp, hb, hbl, w1⟩⟩
  have c0 := chop vs 0 33
  rw [List.drop_zero] at c0
  rw [List.drop_zero] at e0
  rw [e0, chop vs (0 + 33) 1, e1, chop vs (0 + 33 + 1) 1, e2, chop vs (0 + 33 + 1 + 1) 1, e3, chop vs (0 + 33 + 1 + 1 + 1) 1, e4, chop vs (0 + 33 + 1 + 1 + 1 + 1) 1, e5, chop vs (0 + 33 + 1 + 1 + 1 + 1 + 1) 32, e6, List.drop_eq_nil_of_le (show vs.length ≤ 0 + 33 + 1 + 1 + 1 + 1 + 1 + 32 by omega)] at c0
  rw [c0]
  simp [vcells, vtail]
/-- A call. -/
structure OpI where
  kind : Int
  v : Ver
  at_ : Int
def ocells (o : OpI) (sv : AVal) : List AVal := .int .i64 o.kind :: (vcells o.v sv ++ [.int .i64 o.at_])
theorem ocells_len {o : OpI} {sv : AVal} (h : o.v.Ok) : (ocells o sv).length = 72 := by
  simp [ocells, vcells_len h.h h.b]
/-- Calls that were handed in. -/
structure ArgOps (a : AVal) (os : List OpI) (xs : List AVal) : Prop where
  rd : ∀ h, Rds h 72 a os.length xs
  id : ownId a = none
  len : os.length ≤ maxLen
  at_ : ∀ j (hj : j < os.length), ∃ sv, (xs.drop (j * 72)).take 72 = ocells os[j] sv ∧ ArgVer os[j].v sv
theorem cut_len (f : Nat → AVal) (o n : Nat) : (cut f o n).length = n := by simp [cut]
theorem cut_get (f : Nat → AVal) (o n : Nat) {j : Nat} (h : j < (cut f o n).length) : (cut f o n)[j] = f (o + j) := by simp [cut]
theorem cut_sub (f : Nat → AVal) (o n a b : Nat) (h : a + b ≤ n) : ((cut f o n).drop a).take b = cut f (o + a) b := by
  refine List.ext_getElem (by simp [cut]; omega) fun i h1 h2 => ?_
  rw [List.getElem_take, List.getElem_drop, cut_get, cut_get, Nat.add_assoc]
theorem arg_ops {a : AVal} (ha : Arg Try.prog 65 [a]) : ∃ os xs, ArgOps a os xs := by
  rcases ha.slice_inv Try.underlying65 (by rw [k91]; omega) with h | ⟨f, len, h, hl, hx⟩
  · injection h with h; subst h
    exact ⟨[], [], fun h => .nils, rfl, Nat.zero_le _, fun j hj => by simp at hj⟩
  · injection h with h
    subst h
    rw [k91] at hx ⊢
    have each : ∀ i, ∃ p : OpI × AVal, i < len → cut f (i * 72) 72 = ocells p.1 p.2 ∧ ArgVer p.1.v p.2 := fun i => by
      by_cases hi : i < len
      · obtain ⟨hl, he⟩ := (hx i hi).struct_inv Try.underlying91
        have q0 : Arg Try.prog 3 (((cut f (i * 72) 72).drop 0).take (Try.prog.cellsOf 3)) := he 0 _ rfl
        have q1 : Arg Try.prog 31 (((cut f (i * 72) 72).drop 1).take (Try.prog.cellsOf 31)) := he 1 _ rfl
        have q2 : Arg Try.prog 3 (((cut f (i * 72) 72).drop 71).take (Try.prog.cellsOf 3)) := he 2 _ rfl
        rw [k3] at q0 q2
        rw [k31] at q1
        obtain ⟨kind, e0, _⟩ := q0.int_inv Try.underlying3
        obtain ⟨v, sv, e1, hv⟩ := arg_ver q1
        obtain ⟨at_, e2, _⟩ := q2.int_inv Try.underlying3
        refine ⟨(⟨kind, v, at_⟩, sv), fun _ => ⟨?_, hv⟩⟩
        have c0 := chop (cut f (i * 72) 72) 0 1
        rw [List.drop_zero] at c0
        rw [List.drop_zero] at e0
        rw [e0, chop _ (0 + 1) 70, e1, chop _ (0 + 1 + 70) 1, e2, List.drop_eq_nil_of_le (by rw [cut_len]; omega)] at c0
        rw [c0]
        simp [ocells]
      · exact ⟨(⟨0, noV, 0⟩, .nils), fun q => absurd q hi⟩
    obtain ⟨b, hb⟩ := Classical.axiomOfChoice each
    refine ⟨(List.range len).map fun i => (b i).1, cut f 0 (len * 72), fun h => ?_, rfl, by simpa using hl, fun j hj => ?_⟩
    · have := Rds.isl (h := h) (sz := 72) f 0 len (cut f 0 (len * 72)) (by rw [cut_len]) (fun j hj => by rw [cut_get])
      simpa using this
    · simp only [List.length_map, List.length_range] at hj
      simp only [List.getElem_map, List.getElem_range]
      rw [cut_sub _ _ _ _ _ (by omega), Nat.zero_add]
      exact ⟨(b j).2, hb j hj⟩
theorem u65 : und env 65 = M.pure (.slice 91) := rfl
theorem z91 : sizeOf env 91 = M.pure 72 := rfl
/-- An element of a list of pieces. -/
theorem piece {xs ys : List AVal} {a b i : Nat} (h : (xs.drop a).take b = ys) (hi : i < b) : xs[a + i]? = ys[i]? := by
  rw [← h, List.getElem?_take, if_pos hi, List.getElem?_drop]
theorem ocells_v {o : OpI} {sv : AVal} {i : Nat} (h : o.v.Ok) (hi : i < 70) : (ocells o sv)[i + 1]? = (vcells o.v sv)[i]? := by
  unfold ocells
  rw [List.getElem?_cons_succ, List.getElem?_append_left (by rw [vcells_len h.h h.b]; omega)]
def overI (o : OpI) : Bool := decide (200 < o.v.script.length)
def greatI (os : List OpI) : Bool := os.any overI || decide (80 < os.length)
theorem loop30 (Q : Post0) (ks : List Kf) (a : AVal) (os : List OpI) (xs : List AVal) (h : Hp) (n : Nat) (ha : ArgOps a os xs)
    (hq : ∀ (x3 x7 x16 : AVal), os.any overI = false → Kont env 30 none Q ks (.exit 0) (a :: AVal.junk :: .bool false :: x3 :: AVal.junk :: .int .i64 (os.length : Nat) :: .int .i64 (os.length : Nat) :: x7 :: AVal.junk :: AVal.junk :: AVal.junk :: AVal.junk :: AVal.junk :: AVal.junk :: AVal.junk :: AVal.junk :: x16 :: AVal.junk :: AVal.junk :: AVal.junk :: AVal.junk :: []) h n)
    (hr : ∀ (x3 x7 x16 : AVal) (z : AVal), os.any overI = true → Kont env 30 none Q ks .ret (a :: AVal.junk :: .bool true :: x3 :: AVal.junk :: .int .i64 (os.length : Nat) :: z :: x7 :: AVal.junk :: AVal.junk :: AVal.junk :: AVal.junk :: AVal.junk :: AVal.junk :: AVal.junk :: AVal.junk :: x16 :: AVal.junk :: AVal.junk :: AVal.junk :: AVal.junk :: []) h n) :
    ∀ (m i : Nat) (x3 x7 x16 : AVal), i + m = os.length → (os.take i).any overI = false →
    Run env 30 none Q (.loop lp30_0) ks (a :: AVal.junk :: .bool false :: x3 :: AVal.junk :: .int .i64 (os.length : Nat) :: .int .i64 (i : Nat) :: x7 :: AVal.junk :: AVal.junk :: AVal.junk :: AVal.junk :: AVal.junk :: AVal.junk :: AVal.junk :: AVal.junk :: x16 :: AVal.junk :: AVal.junk :: AVal.junk :: AVal.junk :: []) h n := by
  have hlen := ha.len
  have hm : maxLen = 9223372036854775807 := rfl
  intro m
  induction m with
  | zero =>
    intro i x3 x7 x16 hi hs
    have : i = os.length := by omega
    subst this
    have hc : ¬ ((os.length : Nat) : Int) < ((os.length : Nat) : Int) := by omega
    rw [run_loop]
    simp only [lp30_0, loopsOf, Try.f30, Option.getD_some, core1, fgr, execOp, opd, putT, put, nth, forgetL, bor, binInt, shiftB, intOp, List.nil_append, List.append_nil, decide_true, decide_false, List.getD_cons_zero, hc]
    rw [List.take_length] at hs
    exact hq _ _ _ hs
  | succ m ih =>
    intro i x3 x7 x16 hi hs
    have hil : i < os.length := by omega
    have hc : ((i : Nat) : Int) < ((os.length : Nat) : Int) := by omega
    have hwr : IntKind.i64.wrap (((i : Nat) : Int) + 1) = ((i + 1 : Nat) : Int) := by rw [w64 (by omega) (by omega)]; omega
    obtain ⟨sv, e, hv⟩ := ha.at_ i hil
    have hr0 := ha.rd h
    have m1 := moved_adr hr0 (by omega) (i * 72) 1
    have m2 := moved_adr hr0 (by omega) (i * 72 + 1) 35
    have hx : xs[i * 72 + 1 + 35]? = some sv := by
      rw [show i * 72 + 1 + 35 = i * 72 + (35 + 1) by omega, piece e (by omega), ocells_v hv.ok (by omega)]
      exact vcells_t hv.ok.h 2
    rw [run_loop]
    simp only [lp30_0, loopsOf, Try.f30, Option.getD_some, core1, fgr, execOp, opd, putT, put, nth, forgetL, bor, binInt, shiftB, intOp, List.nil_append, List.append_nil, decide_true, List.getD_cons_zero, hc]
    rw [opv_rd (hr0.idx (j := i) u65 z91 rfl hil)]
    simp only [core1, tyr, execOp, opd, putT, put, nth, und, sizeOf, getO, fieldAddr, List.getElem?_cons_succ, List.getElem?_cons_zero, m1, m2]
    rw [opv_rd (hr0.load (k := i * 72 + 1 + 35) ti29 rfl hx)]
    by_cases hov : 200 < os[i].v.script.length
    · have hc2 : 200 < ((os[i].v.script.length : Nat) : Int) := by omega
      simp only [core1, fgr, execOp, opd, opds, ofValue, putT, put, nth, forgetL, doCall, builtin, one1, bor, binInt, shiftB, intOp, gt_iff_lt, decide_true, (hv.s.bytes h).bLen t29, hc2]
      exact hr _ _ _ _ (List.any_eq_true.2 ⟨_, List.getElem_mem hil, decide_eq_true hov⟩)
    · have hc2 : ¬ 200 < ((os[i].v.script.length : Nat) : Int) := by omega
      simp only [core1, fgr, execOp, opd, opds, ofValue, putT, put, nth, forgetL, doCall, builtin, one1, bor, binInt, shiftB, intOp, wrapI, gt_iff_lt, decide_true, decide_false, (hv.s.bytes h).bLen t29, hc2, hwr]
      refine ih (i + 1) _ _ _ (by omega) ?_
      rw [List.take_add_one, List.getElem?_eq_getElem hil, Option.toList_some, List.any_append, hs]
      simp [overI, hov]
theorem f30 (a : AVal) (os : List OpI) (xs : List AVal) (h : Hp) (n : Nat) (ha : ArgOps a os xs) :
    Wp (callI env (evalW env) 30 [a]) h n fun v' h' n' => v' = .bool (greatI os) ∧ h' = h ∧ n' = n := by
  refine wp_callI ff30 fi30 ?_
  have hr0 := ha.rd h
  simp only [fu30, Try.f30, Option.getD_some, List.replicate, core1, fgr, execOp, opd, opds, ofValue, putT, put, nth, forgetL, doCall, builtin, one1, ended, resultOf, oneOrTup, List.cons_append, List.nil_append, List.length_cons, List.length_nil, Nat.reduceSub, Nat.zero_add, wp_pure, hr0.bLen u65]
  refine loop30 _ _ a os xs h n ha ?_ ?_ os.length 0 _ _ _ (by omega) rfl
  · intro x3 x7 x16 hn
    by_cases h80 : 80 < os.length
    · have hc : 80 < ((os.length : Nat) : Int) := by omega
      simp only [core1, fgr, execOp, opd, opds, ofValue, putT, put, nth, forgetL, doCall, builtin, one1, bor, binInt, shiftB, intOp, gt_iff_lt, decide_true, Bool.or_true, and_self, hr0.bLen u65, hc, greatI, hn, h80]
    · have hc : ¬ 80 < ((os.length : Nat) : Int) := by omega
      simp only [core1, fgr, execOp, opd, opds, ofValue, putT, put, nth, forgetL, doCall, builtin, one1, bor, binInt, shiftB, intOp, gt_iff_lt, decide_true, decide_false, Bool.or_false, and_self, hr0.bLen u65, hc, greatI, hn, h80]
  · intro x3 x7 x16 z hn
    simp only [core1, nth, Bool.true_or, and_self, greatI, hn]
theorem great_false {os : List OpI} (h : greatI os = false) : os.length ≤ 80 ∧ ∀ o ∈ os, o.v.script.length ≤ 200 := by
  unfold greatI at h
  simp only [Bool.or_eq_false_iff, decide_eq_false_iff_not] at h
  refine ⟨by omega, fun o ho => ?_⟩
  by_cases q : 200 < o.v.script.length
  · rw [List.any_eq_true.2 ⟨o, ho, decide_eq_true q⟩] at h; cases h.1
  · omega
/- An index behind calls. -/
section
variable {h : Hp} {n id : Nat} {o : OpI} {sv : AVal}
theorem orow_kind (hr : Row h id (ocells o sv)) : Rd (load env 3 (.ptr id 0)) h n [id] (.int .i64 o.kind) := hr.one rfl ti3 rfl
theorem orow_made (hr : Row h id (ocells o sv)) (ho : o.v.Ok) : Rd (load env 3 (.ptr id 34)) h n [id] (.int .i64 o.v.made) := hr.one ((ocells_v ho (by omega)).trans (vcells_t ho.h 0)) ti3 rfl
theorem orow_at (hr : Row h id (ocells o sv)) (ho : o.v.Ok) : Rd (load env 3 (.ptr id 71)) h n [id] (.int .i64 o.at_) := hr.one (by
  unfold ocells
  rw [List.getElem?_cons_succ, List.getElem?_append_right (by rw [vcells_len ho.h ho.b]; omega), vcells_len ho.h ho.b]; rfl) ti3 rfl
theorem orow_v (hr : Row h id (ocells o sv)) (ho : o.v.Ok) : Rd (load env 31 (.ptr id 1)) h n [id] (.agg (vcells o.v sv)) := by
  have := hr.agg (E := env) (n := n) (off := 1) ti31 rfl (by rw [ocells_len ho]; decide)
  have e : ((ocells o sv).drop 1).take 70 = vcells o.v sv := by
    unfold ocells
    rw [List.drop_one, List.tail_cons, List.take_append_of_le_length (by rw [vcells_len ho.h ho.b]; omega), List.take_of_length_le (by rw [vcells_len ho.h ho.b]; omega)]
  exact e ▸ this
theorem orow_pt (hr : Row h id (ocells o sv)) (ho : o.v.Ok) : Rd (load env 28 (.ptr id 1)) h n [id] (.agg (pcells o.v.hash o.v.pn)) := by
  have := hr.agg (E := env) (n := n) (off := 1) ti28 rfl (by rw [ocells_len ho]; decide)
  have e : ((ocells o sv).drop 1).take 33 = pcells o.v.hash o.v.pn := by
    unfold ocells
    rw [List.drop_one, List.tail_cons, List.take_append_of_le_length (by rw [vcells_len ho.h ho.b]; omega), vcells_p ho.h]
  exact e ▸ this
theorem orow_by (hr : Row h id (ocells o sv)) (ho : o.v.Ok) : Rd (load env 25 (.ptr id 39)) h n [id] (.agg (o.v.by_.map u8)) := by
  have := hr.agg (E := env) (n := n) (off := 39) ti25 rfl (by rw [ocells_len ho]; decide)
  have e : ((ocells o sv).drop 39).take 32 = o.v.by_.map u8 := by
    unfold ocells
    rw [show 39 = 38 + 1 from rfl, List.drop_succ_cons]
    unfold vcells
    rw [List.append_assoc, List.drop_append, List.drop_eq_nil_of_le (by rw [pcells_len ho.h]; omega), pcells_len ho.h]
    show (([] : List AVal) ++ (o.v.by_.map u8 ++ [AVal.int .i64 o.at_])).take 32 = _
    rw [List.nil_append, List.take_append_of_le_length (by simp [ho.b]), List.take_of_length_le (by simp [ho.b])]
  exact e ▸ this
end
theorem dropV_len {L : List Ver} {w : Ver} (r : Rises false L) (hw : w ∈ L) : (dropV L w).length + 1 = L.length := by
  obtain ⟨hp, _⟩ := pos_at r (pos_pos r w) hw
  exact ((delL_perm hp).length_eq.trans rfl).symm
theorem ocells_cell {o : OpI} {sv : AVal} (h : oneCell sv = true) : (ocells o sv).all oneCell = true := by
  unfold ocells
  rw [List.all_cons, List.all_append, vcells_cell h]; rfl
/-- What calls make: so many versions at most, with scripts so long at most. -/
structure Small (L : List Ver) (i : Nat) : Prop where
  len : L.length ≤ i
  s : ∀ v ∈ L, v.script.length ≤ 200
theorem Small.set {L : List Ver} {i : Nat} {w v : Ver} (s : Small L i) (hw : w ∈ L) (hv : v.script = w.script) : Small (setV L w v) (i + 1) :=
  ⟨by rw [setV_len]; have := s.len; omega, fun u hu => by
    rcases setV_mem hu with rfl | hu
    · rw [hv]; exact s.s w hw
    · exact s.s u hu⟩
theorem loop31 (Q : Post0) (ks : List Kf) (a : AVal) (os : List OpI) (xs : List AVal) (K : Nat → Prop) (x : Nat) (h0 : Hp) (ha : ArgOps a os xs) (hl : os.length ≤ 80) (hsc : ∀ o ∈ os, o.v.script.length ≤ 200)
    (hT : ∀ (h : Hp) (n : Nat) (L : List Ver) (x5 x10 x14 x15 x21 x36 x46 : AVal), Ixk K h n x L → Small L os.length → Free h n → (∀ j, K j → h j = h0 j) → Kont env 31 none Q ks (.exit 0) (a :: AVal.junk :: .nilp :: .ptr x 0 :: AVal.junk :: x5 :: AVal.junk :: a :: .int .i64 (os.length : Nat) :: .int .i64 (os.length : Nat) :: x10 :: AVal.junk :: AVal.junk :: AVal.junk :: x14 :: x15 :: AVal.junk :: AVal.junk :: AVal.junk :: AVal.junk :: AVal.junk :: x21 :: AVal.junk :: AVal.junk :: AVal.junk :: AVal.junk :: AVal.junk :: AVal.junk :: AVal.junk :: AVal.junk :: AVal.junk :: AVal.junk :: AVal.junk :: AVal.junk :: AVal.junk :: AVal.junk :: x36 :: AVal.junk :: AVal.junk :: AVal.junk :: AVal.junk :: AVal.junk :: AVal.junk :: AVal.junk :: AVal.junk :: AVal.junk :: x46 :: AVal.junk :: AVal.junk :: AVal.junk :: AVal.junk :: AVal.junk :: AVal.junk :: AVal.junk :: AVal.junk :: AVal.junk :: AVal.junk :: AVal.junk :: []) h n) :
    ∀ (m i : Nat) (h : Hp) (n : Nat) (L : List Ver) (x5 x10 x14 x15 x21 x36 x46 : AVal), i + m = os.length → Ixk K h n x L → Small L i → Free h n → (∀ j, K j → h j = h0 j) →
      Run env 31 none Q (.loop lp31_0) ks (a :: AVal.junk :: .nilp :: .ptr x 0 :: AVal.junk :: x5 :: AVal.junk :: a :: .int .i64 (os.length : Nat) :: .int .i64 (i : Nat) :: x10 :: AVal.junk :: AVal.junk :: AVal.junk :: x14 :: x15 :: AVal.junk :: AVal.junk :: AVal.junk :: AVal.junk :: AVal.junk :: x21 :: AVal.junk :: AVal.junk :: AVal.junk :: AVal.junk :: AVal.junk :: AVal.junk :: AVal.junk :: AVal.junk :: AVal.junk :: AVal.junk :: AVal.junk :: AVal.junk :: AVal.junk :: AVal.junk :: x36 :: AVal.junk :: AVal.junk :: AVal.junk :: AVal.junk :: AVal.junk :: AVal.junk :: AVal.junk :: AVal.junk :: AVal.junk :: x46 :: AVal.junk :: AVal.junk :: AVal.junk :: AVal.junk :: AVal.junk :: AVal.junk :: AVal.junk :: AVal.junk :: AVal.junk :: AVal.junk :: AVal.junk :: []) h n := by
  intro m
  induction m with
  | zero =>
    intro i h n L x5 x10 x14 x15 x21 x36 x46 hm hs hS hf ho
    have : i = os.length := by omega
    subst this
    rw [run_loop]
    have hcc : ¬ (((os.length : Nat) : Int) < ((os.length : Nat) : Int)) := by omega
    simp only [lp31_0, loopsOf, Try.f31, Option.getD_some, core1, fgr, execOp, opd, putT, put, nth, forgetL, bor, binInt, shiftB, intOp, List.nil_append, List.append_nil, decide_true, decide_false, List.getD_cons_zero, hcc]
    exact hT h n L _ _ _ _ _ _ _ hs hS hf ho
  | succ m ih =>
    intro i h n L x5 x10 x14 x15 x21 x36 x46 hm hs hS hf ho
    have hil : i < os.length := by omega
    have hcc : (((i : Nat) : Int) < ((os.length : Nat) : Int)) := by omega
    have w1 : IntKind.i64.wrap (((i : Nat) : Int) + 1) = ((i + 1 : Nat) : Int) := by rw [w64 (by omega) (by omega)]; omega
    obtain ⟨sv, e, hv⟩ := ha.at_ i hil
    have hr0 := ha.rd h
    have hmem : os[i] ∈ os := List.getElem_mem hil
    generalize hoi : os[i] = o at *
    have hld := hr0.agg (E := env) (n := n) (k := i * 72) ti91 rfl (by decide) (by show i * 72 + 72 ≤ _; rw [hr0.length]; omega)
    have hld' : Rd (load env 91 (addrOf (i * 72) a)) h n (rid a) (.agg (ocells o sv)) := by
      have e' : (xs.drop (i * 72)).take 72 = ocells o sv := e
      exact e' ▸ hld
    have svk := (hv.s.bytes h).kind
    rw [run_loop]
    simp only [lp31_0, loopsOf, Try.f31, Option.getD_some, core1, fgr, execOp, opd, putT, put, nth, forgetL, bor, binInt, shiftB, intOp, List.nil_append, List.append_nil, decide_true, List.getD_cons_zero, hcc]
    rw [opv_rd (hr0.idx (j := i) u65 z91 rfl hil)]
    simp only [core1, execOp, opd, putT, put, nth]
    rw [opv_rd hld']
    simp only [core1, execOp, putT, put]
    rw [opv_alloc ti91 rfl]
    simp only [core1, execOp, opd, putT, put, nth, cel]
    refine opv_hold (v := .agg (ocells o sv)) ti91 rfl (ocells_len hv.ok) (ocells_cell svk.2.1) hf fun H1 r1 p1 f1 => ?_
    have s1 := hs.old (n' := n + 1) (by omega) (fun j hj => p1 j (by omega))
    have ho1 : ∀ j, K j → H1 j = h0 j := fun j hj => by rw [p1 j (by have := hs.k hj; omega), ho j hj]
    have hc9 : L.length ≤ 900000 := by have := hS.len; omega
    have hsl : o.v.script.length ≤ 200 := hsc o hmem
    have hS1 : Small L (i + 1) := ⟨by have := hS.len; omega, hS.s⟩
    simp only [core1, tyr, fgr, execOp, opd, putT, put, nth, forgetL, und, sizeOf, getO, moved, fieldAddr, List.getElem?_cons_zero, Nat.zero_add]
    rw [opv_rd (orow_kind r1)]
    simp only [core1, fgr, execOp, opd, ofValue, putT, put, nth, forgetL, bor, binInt, shiftB, intOp, int_beq, decide_true]
    by_cases c0 : o.kind = 0
    · simp only [core1, tyr, execOp, opd, putT, put, nth, und, sizeOf, getO, moved, fieldAddr, List.getElem?_cons_succ, List.getElem?_cons_zero, decide_true, Nat.zero_add, c0]
      rw [opv_rd (orow_v r1 hv.ok)]
      simp only [core1, hkr, execOp, opd, opds, putT, put, nth, doCall, callV_func, List.nil_append, List.append_nil]
      refine opv_callf f1 (f33k o.v sv hv.ok hv.pn (by omega) s1 (hv.s.bytes _) (fun j q => by rw [argB_id hv.s] at q; cases q) hc9 f1) fun v2 h2 n2 hn2 f2 ⟨k2, hh⟩ => ?_
      have ho2 : ∀ j, K j → h2 j = h0 j := fun j hj => by rw [k2 j hj, ho1 j hj]
      rcases hh with ⟨_, e2, s2⟩ | ⟨_, e2, s2⟩
      · subst e2
        simp only [core1, fgr, execOp, opd, ofValue, putT, put, nth, forgetL, bor, binInt, shiftB, intOp, wrapI, decide_true, w1]
        exact ih (i + 1) h2 n2 L _ _ _ _ _ _ _ (by omega) s2 hS1 f2 ho2
      · subst e2
        simp only [core1, fgr, execOp, opd, ofValue, putT, put, nth, forgetL, bor, binInt, shiftB, intOp, wrapI, decide_true, w1]
        exact ih (i + 1) h2 n2 _ _ _ _ _ _ _ _ (by omega) s2 ⟨by rw [putV_len]; have := hS.len; omega, fun u hu => by
          rcases putV_mem.1 hu with rfl | hu
          · exact hsl
          · exact hS.s u hu⟩ f2 ho2
    by_cases c1 : o.kind = 1
    · simp only [core1, tyr, fgr, execOp, opd, ofValue, putT, put, nth, forgetL, und, sizeOf, bor, binInt, shiftB, intOp, getO, moved, fieldAddr, List.getElem?_cons_succ, List.getElem?_cons_zero, Int.reduceEq, decide_true, decide_false, Nat.zero_add, Nat.add_zero, beq_self_eq_true, c1]
      rw [opv_rd (orow_pt r1 hv.ok)]
      simp only [core1, tyr, execOp, opd, putT, put, nth, und, sizeOf, getO, moved, fieldAddr, List.getElem?_cons_succ, List.getElem?_cons_zero, Nat.reduceAdd, Nat.zero_add]
      rw [opv_rd (orow_made r1 hv.ok)]
      simp only [core1, tyr, execOp, opd, putT, put, nth, und, sizeOf, getO, moved, fieldAddr, List.getElem?_cons_succ, List.getElem?_cons_zero, Nat.zero_add]
      rw [opv_rd (orow_at r1 hv.ok)]
      simp only [core1, tyr, execOp, opd, putT, put, nth, und, sizeOf, getO, moved, fieldAddr, List.getElem?_cons_succ, List.getElem?_cons_zero, Nat.reduceAdd, Nat.zero_add]
      rw [opv_rd (orow_by r1 hv.ok)]
      simp only [core1, hkr, execOp, opd, opds, putT, put, nth, doCall, callV_func, List.nil_append, List.append_nil]
      refine opv_callf f1 (f36k o.v.hash o.v.pn o.v.made o.at_ o.v.by_ hv.ok.h hv.ok.b s1 hc9 f1) fun v2 h2 n2 hn2 f2 ⟨k2, hh⟩ => ?_
      have ho2 : ∀ j, K j → h2 j = h0 j := fun j hj => by rw [k2 j hj, ho1 j hj]
      rcases hh with ⟨_, e2, s2⟩ | ⟨w, hw, _, _, _, _, e2, s2⟩
      · subst e2
        simp only [core1, fgr, execOp, opd, ofValue, putT, put, nth, forgetL, bor, binInt, shiftB, intOp, wrapI, decide_true, w1]
        exact ih (i + 1) h2 n2 L _ _ _ _ _ _ _ (by omega) s2 hS1 f2 ho2
      · subst e2
        simp only [core1, fgr, execOp, opd, ofValue, putT, put, nth, forgetL, bor, binInt, shiftB, intOp, wrapI, decide_true, w1]
        exact ih (i + 1) h2 n2 _ _ _ _ _ _ _ _ (by omega) s2 (hS.set hw rfl) f2 ho2
    by_cases c2 : o.kind = 2
    · simp only [core1, tyr, fgr, execOp, opd, ofValue, putT, put, nth, forgetL, und, sizeOf, bor, binInt, shiftB, intOp, getO, moved, fieldAddr, List.getElem?_cons_succ, List.getElem?_cons_zero, int_beq, Int.reduceEq, decide_true, decide_false, Nat.zero_add, Nat.add_zero, beq_self_eq_true, c2]
      rw [opv_rd (orow_pt r1 hv.ok)]
      simp only [core1, tyr, execOp, opd, putT, put, nth, und, sizeOf, getO, moved, fieldAddr, List.getElem?_cons_succ, List.getElem?_cons_zero, Nat.reduceAdd, Nat.zero_add]
      rw [opv_rd (orow_made r1 hv.ok)]
      simp only [core1, hkr, execOp, opd, opds, putT, put, nth, doCall, callV_func, List.nil_append, List.append_nil]
      refine opv_callf f1 (f38k o.v.hash o.v.pn o.v.made hv.ok.h s1 hc9 f1) fun v2 h2 n2 hn2 f2 ⟨k2, hh⟩ => ?_
      have ho2 : ∀ j, K j → h2 j = h0 j := fun j hj => by rw [k2 j hj, ho1 j hj]
      rcases hh with ⟨_, e2, s2⟩ | ⟨w, hw, _, _, e2, s2⟩
      · subst e2
        simp only [core1, fgr, execOp, opd, ofValue, putT, put, nth, forgetL, bor, binInt, shiftB, intOp, wrapI, decide_true, w1]
        exact ih (i + 1) h2 n2 L _ _ _ _ _ _ _ (by omega) s2 hS1 f2 ho2
      · subst e2
        simp only [core1, fgr, execOp, opd, ofValue, putT, put, nth, forgetL, bor, binInt, shiftB, intOp, wrapI, decide_true, w1]
        exact ih (i + 1) h2 n2 _ _ _ _ _ _ _ _ (by omega) s2 (hS.set hw rfl) f2 ho2
    by_cases c3 : o.kind = 3
    · simp only [core1, tyr, fgr, execOp, opd, ofValue, putT, put, nth, forgetL, und, sizeOf, bor, binInt, shiftB, intOp, getO, moved, fieldAddr, List.getElem?_cons_succ, List.getElem?_cons_zero, int_beq, Int.reduceEq, decide_true, decide_false, Nat.zero_add, Nat.add_zero, beq_self_eq_true, c3]
      rw [opv_rd (orow_pt r1 hv.ok)]
      simp only [core1, tyr, execOp, opd, putT, put, nth, und, sizeOf, getO, moved, fieldAddr, List.getElem?_cons_succ, List.getElem?_cons_zero, Nat.reduceAdd, Nat.zero_add]
      rw [opv_rd (orow_made r1 hv.ok)]
      simp only [core1, hkr, execOp, opd, opds, putT, put, nth, doCall, callV_func, List.nil_append, List.append_nil]
      refine opv_callf f1 (f34k o.v.hash o.v.pn o.v.made hv.ok.h s1 hc9 f1) fun v2 h2 n2 hn2 f2 ⟨k2, hh⟩ => ?_
      have ho2 : ∀ j, K j → h2 j = h0 j := fun j hj => by rw [k2 j hj, ho1 j hj]
      rcases hh with ⟨_, e2, s2⟩ | ⟨w, hw, _, e2, s2⟩
      · subst e2
        simp only [core1, fgr, execOp, opd, ofValue, putT, put, nth, forgetL, bor, binInt, shiftB, intOp, wrapI, decide_true, w1]
        exact ih (i + 1) h2 n2 L _ _ _ _ _ _ _ (by omega) s2 hS1 f2 ho2
      · subst e2
        simp only [core1, fgr, execOp, opd, ofValue, putT, put, nth, forgetL, bor, binInt, shiftB, intOp, wrapI, decide_true, w1]
        exact ih (i + 1) h2 n2 _ _ _ _ _ _ _ _ (by omega) s2 ⟨by have := dropV_len hs.rL hw; have := hS.len; omega, fun u hu => hS.s u (dropV_sub hu)⟩ f2 ho2
    simp only [core1, fgr, execOp, opd, ofValue, putT, put, nth, forgetL, bor, binInt, shiftB, intOp, wrapI, int_beq, decide_true, decide_false, c0, c1, c2, c3, w1]
    exact ih (i + 1) H1 (n + 1) L _ _ _ _ _ _ _ (by omega) s1 hS1 f1 ho1
theorem f31 (a : AVal) (os : List OpI) (xs : List AVal) (h : Hp) (n : Nat) (ha : ArgOps a os xs) (hg : greatI os = false) (hf : Free h n) :
    Wp (callI env (evalW env) 31 [a]) h n fun v' h' n' => ∃ x L, v' = .ptr x 0 ∧ n ≤ x ∧ Ixk (fun j => j < n) h' n' x L ∧ Small L 80 ∧ Old h h' n := by
  obtain ⟨g1, g2⟩ := great_false hg
  have hr0 := ha.rd
  refine wp_callI ff31 fi31 ?_
  simp only [fu31, Try.f31, Option.getD_some, List.replicate, core1, fgr, hkr, execOp, opd, opds, ofValue, putT, put, forgetL, doCall, callV_func, ended, resultOf, oneOrTup, List.cons_append, List.nil_append, List.append_nil, List.length_cons, List.length_nil, Nat.reduceSub, Nat.zero_add, wp_pure]
  refine opv_callf hf (f40k h n hf) fun v1 h1 n1 hn1 f1 ⟨x, e1, hx, s1, o1⟩ => ?_
  subst e1
  simp only [core1, fgr, execOp, opd, opds, ofValue, putT, put, nth, forgetL, doCall, builtin, one1, (hr0 h1).bLen u65]
  refine loop31 _ _ a os xs (fun j => j < n) x h1 ha g1 g2 ?_ os.length 0 h1 n1 [] _ _ _ _ _ _ _ (by omega) s1 ⟨Nat.le_refl _, fun v hv => by cases hv⟩ f1 (fun j hj => rfl)
  intro h2 n2 L x5 x10 x14 x15 x21 x36 x46 s2 hS f2 ho
  simp only [core1, fgr, execOp, opd, putT, put, nth, forgetL, true_and]
  exact ⟨x, L, rfl, hx, s2, ⟨by have := hS.len; omega, hS.s⟩, fun j hj => by rw [ho j hj, o1 j hj]⟩
/- Versions that are ended at a height, plainly. -/
theorem eqVr_refl (v : Ver) : eqVr v v = true := by
  unfold eqVr
  simp [show cmpP v.hash v.pn v.hash v.pn = 0 from ordQ.refl v]
theorem eqL_refl : ∀ l : List Ver, eqL l l = true
  | [] => rfl
  | v :: l => by simp only [eqL, eqVr_refl, eqL_refl l, Bool.and_self]
/-! Lists of versions -/
theorem VL.keep {h h' : Hp} {a b : Nat} {v : AVal} {vs : List Ver} (l : VL h a b v vs) (hk : ∀ j, a ≤ j → j < b → h' j = h j) : VL h' a b v vs := by
  obtain ⟨cells, c1, c2, c3⟩ := l
  exact ⟨cells, c1.keep fun j q => hk j (c3 j q).1 (c3 j q).2, c2.mono (fun j q => q) (fun j q => hk j q.1 q.2.1), c3⟩
theorem VL.old {h h' : Hp} {a b n : Nat} {v : AVal} {vs : List Ver} (l : VL h a b v vs) (hn : b ≤ n) (hk : Old h h' n) : VL h' a b v vs := l.keep fun j _ q => hk j (by omega)
theorem lists_wp {h : Hp} {n a b c d : Nat} {v w : AVal} {vs ws : List Ver} (lv : VL h a b v vs) (lw : VL h c d w ws) (hb : b ≤ n) (hd : d ≤ n) (hc : vs.length ≤ 10000000) (hf : Free h n) :
    Wp (callI env (evalW env) 35 [v, w]) h n fun v' h' n' => v' = .bool (eqL vs ws) ∧ Old h h' n := by
  obtain ⟨cv, v1, v2, v3⟩ := lv
  obtain ⟨cw, w1, w2, w3⟩ := lw
  exact f35 v w vs ws cv cw (fun j => j < n) h n hc v1.rds w1.rds (v2.mono (fun j q => by have := q.2.1; omega) (fun j q => rfl)) (w2.mono (fun j q => by have := q.2.1; omega) (fun j q => rfl)) (fun j q => by have := v3 j q; omega) (fun j q => by have := w3 j q; omega) (fun j q => q) hf
/-- One of a list, in memory. -/
structure VAt (h : Hp) (a b : Nat) (v : AVal) (k : Nat) (w : Ver) (sw : AVal) : Prop where
  ok : w.Ok
  all : ∀ n, Rd (load env 31 (addrOf k v)) h n (rid v) (.agg (vcells w sw))
  pt : ∀ n, Rd (load env 28 (addrOf k v)) h n (rid v) (.agg (pcells w.hash w.pn))
  made : ∀ n, Rd (load env 3 (addrOf (k + 33) v)) h n (rid v) (.int .i64 w.made)
  spent : ∀ n, Rd (load env 3 (addrOf (k + 37) v)) h n (rid v) (.int .i64 w.spent)
  script : ∀ n, Rd (load env 29 (addrOf (k + 35) v)) h n (rid v) sw
  mv : ∀ k m, moved m (addrOf k v) = M.pure (addrOf (k + m) v)
  s : Bytes h sw w.script
  sn : ∀ j, ownId sw = some j → a ≤ j ∧ j < b
theorem VL.at_ {h : Hp} {a b : Nat} {v : AVal} {vs : List Ver} (l : VL h a b v vs) {i : Nat} (hi : i < vs.length) : ∃ sw, VAt h a b v (i * 70) vs[i] sw := by
  obtain ⟨cells, c1, c2, c3⟩ := l
  obtain ⟨sw, e, bs, o, d⟩ := c2.at_ i hi
  have hr := c1.rds
  have hl : i * 70 + 70 ≤ cells.length := by rw [c2.len]; omega
  have one : ∀ k x, k < 70 → (vcells vs[i] sw)[k]? = some x → cells[i * 70 + k]? = some x := fun k x hk hx => by rw [piece e hk, hx]
  refine ⟨sw, o, fun n => ?_, fun n => ?_, fun n => hr.load ti3 rfl (one 33 _ (by omega) (vcells_t o.h 0)), fun n => hr.load ti3 rfl (one 37 _ (by omega) (vcells_t o.h 4)), fun n => hr.load ti29 rfl (one 35 _ (by omega) (vcells_t o.h 2)), fun k m => moved_adr hr (by omega) k m, bs, fun j q => ⟨(d j q).1, (d j q).2.1⟩⟩
  · have := hr.agg (E := env) (n := n) (k := i * 70) ti31 rfl (by decide) hl
    have e' : (cells.drop (i * 70)).take 70 = vcells vs[i] sw := e
    exact e' ▸ this
  · have := hr.agg (E := env) (n := n) (k := i * 70) ti28 rfl (by decide) (by show i * 70 + 33 ≤ _; omega)
    have e' : (cells.drop (i * 70)).take 33 = pcells vs[i].hash vs[i].pn := by
      rw [← vcells_p (sv := sw) o.h, ← e, List.take_take]; rfl
    exact e' ▸ this
theorem VL.len {h : Hp} {a b : Nat} {v : AVal} {vs : List Ver} (l : VL h a b v vs) {ts : List TypeId} : bLen env (43 :: ts) v = M.pure (.int .i64 (vs.length : Nat)) := by
  obtain ⟨cells, c1, c2, c3⟩ := l
  exact c1.rds.bLen u43
theorem VL.idx {h : Hp} {a b : Nat} {v : AVal} {vs : List Ver} (l : VL h a b v vs) {i : Nat} (hi : i < vs.length) {h' : Hp} {n' : Nat} : Rd (indexAddr env 43 v (.int .i64 ((i : Nat) : Int))) h' n' [] (addrOf (i * 70) v) := by
  obtain ⟨cells, c1, c2, c3⟩ := l
  exact c1.rds.idx u43 z31s rfl hi
/- IndexLater's rounds. -/
def b1 : List UInt8 := 1 :: List.replicate 31 0
/- A copy of an index. -/
theorem t128 : ti env 128 = M.pure ⟨.pointer 31, 1, 8, .nilp⟩ := ti128
theorem wp_clone {h : Hp} {n b cnt : Nat} {v : AVal} {xs : List AVal} (hb : h b = some (.row (.l []) 128)) (hv : Rds h 1 v cnt xs) (h1 : xs.all oneCell = true) (hc : cnt ≤ 1000000) (hf : Free h n) :
    Wp (bAppend env [95, 95] (.sl b 0 0 (some 0) 1) v) h n fun v' h' n' => (cnt = 0 ∧ v' = .sl b 0 0 (some 0) 1 ∧ h' = h ∧ n' = n) ∨ (0 < cnt ∧ v' = .sl n 0 cnt none 1 ∧ h' = upd h n (some (.row (.l xs) 128)) ∧ n' = n + 1) := by
  simp only [bAppend, u95, bind_pure, intB, append, t128, hv.len, wp_ask]
  by_cases hk : cnt = 0
  · subst hk
    rw [Nat.beq_refl]
    exact wp_pure.2 (.inl ⟨rfl, rfl, rfl, rfl⟩)
  have hk0 : cnt.beq 0 = false := beq_of hk
  simp only [hk0]
  refine wp_rdb hv.cells ?_
  have r1 : ((2 * cnt * 8).ble room && cnt.ble room) = true := by
    unfold room
    rw [ble_of (by omega), ble_of (by omega)]; rfl
  have e0 : (0 + cnt).ble 0 = false := blit_of (by omega)
  have sc : sliceCells 1 0 (.sl b 0 0 (some 0) 1) = (getB b).bind (rowK fun c _ => (ob ((0 + 0 * 1).ble c.size)).bind fun _ => M.pure (c.sub 0 (0 * 1))) := rfl
  simp only [sameSz, wp_get, hb, Option.some.injEq, exists_eq_left', rowK, wp_ask, e0]
  refine wp_rdb (a := []) ((Rds.sl (sz := 1) b 0 0 (some 0) (.l []) 128 [] hb rfl (by simp) (fun j hj => by simp at hj)).cells) ?_
  simp only [grown, wp_ob, wp_new, wp_pure, r1, true_and, Nat.zero_add, List.nil_append, and_self, and_true]
  exact .inr (by omega)
theorem Lp.eqNil {h : Hp} {v : AVal} {cnt : Nat} {xs : List AVal} (l : Lp h v cnt xs) : binOp env .eql 95 v .nils = M.pure (.bool (isNils v)) ∧ (isNils v = true → v = .nils ∧ cnt = 0 ∧ xs = []) := by
  cases l with
  | nil => exact ⟨rfl, fun _ => ⟨rfl, rfl, rfl⟩⟩
  | zero id off c hh hs => exact ⟨rfl, fun q => by cases q⟩
  | sl id cnt cells xs hh h0 hl hx => exact ⟨rfl, fun q => by cases q⟩
theorem f86 (v : AVal) (cnt : Nat) (xs : List AVal) (h : Hp) (n : Nat) (hv : Lp h v cnt xs) (h1 : xs.all oneCell = true) (hc : cnt ≤ 1000000) (hf : Free h n) :
    Wp (callI env (evalW env) 86 [v]) h n fun v' h' n' => Lp h' v' cnt xs ∧ (∀ j, ownId v' = some j → n ≤ j ∧ j < n') ∧ Old h h' n := by
  refine wp_callI ff86 fi86 ?_
  obtain ⟨en, en2⟩ := hv.eqNil
  simp only [fu86, Try.f86, Option.getD_some, List.replicate, core1, fgr, execOp, opd, ofValue, putT, put, nth, forgetL, ended, resultOf, oneOrTup, List.cons_append, List.nil_append, List.length_cons, List.length_nil, Nat.reduceSub, Nat.zero_add, wp_pure, en]
  cases hnil : isNils v with
  | true =>
    obtain ⟨e1, e2, e3⟩ := en2 hnil
    subst e1; subst e2; subst e3
    simp only [core1, fgr, execOp, opd, ofValue, putT, put, nth, forgetL, true_and]
    exact ⟨.nil, (fun j q => by cases q), Old.refl _ _⟩
  | false =>
    simp only [core1, tyr, execOp, ops2, und, getO, Nat.zero_mul, buildSlice, reps, fill, Nat.ble, Nat.zero_mul]
    refine opv_row ti128 hf (f := fun id => AVal.sl id 0 0 (some 0) 1) fun H r o f => ?_
    simp only [core1, execOp, opd, opds, putT, put, nth, doCall, builtin, two2]
    have hv' := hv.keep (h' := H) fun j q => o j (by have := hv.live hf q; omega)
    have hlen := hv.rds.length
    refine opv_call (wp_clone r hv'.rds h1 hc f) fun v2 h2 n2 hn2 hh => ?_
    simp only [core1, fgr, execOp, opd, putT, put, nth, forgetL, true_and]
    rcases hh with ⟨e1, e2, e3, e4⟩ | ⟨e1, e2, e3, e4⟩
    · subst e1; subst e2; subst e3; subst e4
      have : xs = [] := List.eq_nil_of_length_eq_zero (by omega)
      subst this
      exact ⟨.zero n 0 _ r (Nat.zero_le _), (fun j q => by injection q with q; omega), fun j hj => o j (by omega)⟩
    · subst e2; subst e3; subst e4
      have hxl : xs.length = cnt := by omega
      exact ⟨.sl (n + 1) cnt xs xs (upd_same _ _ _) (by omega) (by omega) (List.take_of_length_le (by omega)), (fun j q => by injection q with q; omega), fun j hj => by rw [upd_ne _ _ (by omega), o j (by omega)]⟩
theorem f41 (x : Nat) (L : List Ver) (D M : Nat → Prop) (h : Hp) (n : Nat) (hs : Ix h n D M x L) (hc : L.length ≤ 1000000) (hf : Free h n) :
    Wp (callI env (evalW env) 41 [.ptr x 0]) h n fun v' h' n' => ∃ y M', v' = .ptr y 0 ∧ Ix h' n' D M' y L ∧ (∀ j, M' j → n ≤ j) ∧ Old h h' n := by
  obtain ⟨⟨S, s0, rS, perm⟩, rL, ok⟩ := hs
  have s00 := s0
  obtain ⟨vl, vs, xl, xs, iv, mx, ml, ms, mn⟩ := s00
  refine wp_callI ff41 fi41 ?_
  simp only [fu41, Try.f41, Option.getD_some, List.replicate, core1, fgr, hkr, execOp, opd, opds, ofValue, putT, put, nth, forgetL, doCall, callV_func, ended, resultOf, oneOrTup, List.cons_append, List.nil_append, List.append_nil, List.length_cons, List.length_nil, Nat.reduceSub, Nat.zero_add, wp_pure]
  refine opv_same (f73 x _ true h n iv.row rfl) ?_
  simp only [core1, fgr, hkr, execOp, opd, opds, putT, put, nth, forgetL, doCall, callV_func, List.append_nil, Bool.not_true]
  refine opv_callf hf (f40 h n hf) fun v1 h1 n1 hn1 f1 ⟨y, e1, hy, i1, o1⟩ => ?_
  subst e1
  obtain ⟨⟨S1, ⟨vl1, vs1, xl1, xs1, jv, _⟩, _⟩, _⟩ := i1
  have yn := jv.xn
  obtain ⟨e0, jr⟩ := jv.row
  have row1 := iv.row.keep (o1 x iv.xn)
  have lp1 := iv.l.keep (h' := h1) fun j q => o1 j (mn j (ml j q)).1
  have ls1 := iv.s.keep (h' := h1) fun j q => o1 j (mn j (ms j q)).1
  have xn := iv.xn
  have xy : x ≠ y := by omega
  have hSl : S.length = L.length := perm.length_eq.symm
  simp only [core1, fgr, execOp, opd, putT, put, nth, forgetL]
  refine run_draw.2 ⟨rfl, ?_⟩
  simp only [fe_cons, fev_pure, core1, tyr, execOp, opd, putT, put, nth, und, sizeOf, nilCheck, getO, moved, fieldAddr, List.getElem?_cons_succ, List.getElem?_cons_zero, Nat.reduceAdd, Nat.zero_add, Nat.add_zero]
  rw [fev_rd (row1.one (off := 1) rfl ti95 rfl)]
  simp only [fe_cons, hkr, execOp, opd, opds, putT, put, nth, doCall, callV_func, List.nil_append, List.append_nil, Nat.reduceAdd]
  have fo1 : ∀ S : Nat → Bool, Free (only S h1) n1 := fun S => f1.only
  refine fev_in (fun j => decide (ownId vl = some j)) f1 (f86 vl L.length xl (only (fun j => decide (ownId vl = some j)) h1) n1 (lp1.keep fun j q => only_in (decide_eq_true q)) iv.lp.cells hc (fo1 _)) fun v2 h2 n2 r2 w2 hr2 hn2 f2 ⟨l2, i2, o2⟩ hin hout hr hw => ?_
  have vln : ∀ j, ownId vl = some j → j < n ∧ j ≠ x ∧ j ≠ y := fun j q => by
    have h1 := (mn j (ml j q)).1
    exact ⟨h1, (iv.vlx j q).1, by omega⟩
  have vsn : ∀ j, ownId vs = some j → j < n ∧ j ≠ x ∧ j ≠ y := fun j q => by
    have h1 := (mn j (ms j q)).1
    exact ⟨h1, (iv.vsx j q).1, by omega⟩
  have old2 : Old h1 h2 n1 := fun j hj => by
    by_cases q : ownId vl = some j
    · rw [hin j (.inl (decide_eq_true q)), o2 j hj, only_in (decide_eq_true q)]
    · exact hout j hj (decide_eq_false q)
  have l2' : Lp h2 v2 L.length xl := l2.keep fun j q => hin j (.inr (i2 j q).1)
  simp only [fe_cons, fev_pure, core1, tyr, execOp, opd, putT, put, nth, und, sizeOf, nilCheck, getO, moved, fieldAddr, List.getElem?_cons_succ, List.getElem?_cons_zero, Nat.reduceAdd, Nat.zero_add, Nat.add_zero]
  rw [fev_rd ((row1.keep (old2 x (by have := iv.xn; omega))).one (off := 3) rfl ti95 rfl)]
  simp only [fe_cons, hkr, execOp, opd, opds, putT, put, nth, doCall, callV_func, List.nil_append, List.append_nil, Nat.reduceAdd]
  have ls2 := ls1.keep (h' := h2) fun j q => old2 j (by have := (vsn j q).1; omega)
  have fo2 : ∀ S : Nat → Bool, Free (only S h2) n2 := fun S => f2.only
  refine fev_in (fun j => decide (ownId vs = some j)) f2 (f86 vs S.length xs (only (fun j => decide (ownId vs = some j)) h2) n2 (ls2.keep fun j q => only_in (decide_eq_true q)) iv.sp.cells (by omega) (fo2 _)) fun v3 h3 n3 r3 w3 hr3 hn3 f3 ⟨l3, i3, o3⟩ hin3 hout3 hr3' hw3 => ?_
  have old3 : Old h2 h3 n2 := fun j hj => by
    by_cases q : ownId vs = some j
    · rw [hin3 j (.inl (decide_eq_true q)), o3 j hj, only_in (decide_eq_true q)]
    · exact hout3 j hj (decide_eq_false q)
  have l3' : Lp h3 v3 S.length xs := l3.keep fun j q => hin3 j (.inr (i3 j q).1)
  have l2'' : Lp h3 v2 L.length xl := l2'.keep fun j q => old3 j (i2 j q).2
  have jr3 : h3 y = some (.row (.l [.bool true, vl1, fo false, vs1, fo true]) e0) := by rw [old3 y (by omega), old2 y (by omega)]; exact jr
  simp only [fe_cons, fev_pure, core1, tyr, execOp, opd, putT, put, nth, und, sizeOf, nilCheck, getO, moved, fieldAddr, List.getElem?_cons_succ, List.getElem?_cons_zero, Nat.reduceAdd, Nat.zero_add, Nat.add_zero]
  have k2 := l2.rds.kind
  have k3 := l3.rds.kind
  refine fev_wr (Row.write (v := v2) jr3 ti95 (by rw [k2.1]; rfl) (by show 1 + 1 ≤ 5; omega) (by rw [k2.1]; simp [k2.2.1])) ?_
  rw [k2.1, show splice [.bool true, vl1, fo false, vs1, fo true] 1 [v2] = [.bool true, v2, fo false, vs1, fo true] from rfl]
  simp only [fe_cons, fev_pure, core1, tyr, execOp, opd, putT, put, nth, und, sizeOf, nilCheck, getO, moved, fieldAddr, List.getElem?_cons_succ, List.getElem?_cons_zero, Nat.reduceAdd, Nat.zero_add, Nat.add_zero]
  refine fev_wr (Row.write (v := v3) (upd_same _ _ _) ti95 (by rw [k3.1]; rfl) (by show 3 + 1 ≤ 5; omega) (by rw [k3.1]; simp [k3.2.1])) ?_
  rw [k3.1, show splice [.bool true, v2, fo false, vs1, fo true] 3 [v3] = [.bool true, v2, fo false, v3, fo true] from rfl]
  simp only [fe_nil, core1, fgr, execOp, opd, putT, put, nth, forgetL, Nat.reduceAdd, true_and]
  have nx2 : x ∉ w2 := fun q => (vln x (of_decide_eq_true (hw x q))).2.1 rfl
  have ny2 : y ∉ w2 := fun q => (vln y (of_decide_eq_true (hw y q))).2.2 rfl
  have nry2 : y ∉ r2 := fun q => (vln y (of_decide_eq_true (hr y q))).2.2 rfl
  have nx3 : x ∉ w3 := fun q => (vsn x (of_decide_eq_true (hw3 x q))).2.1 rfl
  have ny3 : y ∉ w3 := fun q => (vsn y (of_decide_eq_true (hw3 y q))).2.2 rfl
  have nry3 : y ∉ r3 := fun q => (vsn y (of_decide_eq_true (hr3' y q))).2.2 rfl
  refine ⟨(by (try simp (disch := first | assumption | omega) only [fine, List.all_cons, List.all_nil, clash_pl, clash_pr, clash_rr, Bool.not_false, Bool.true_or, Bool.and_true, Bool.true_and, clash_rw, clash_xs, clash_sx]); repeat' (first | rfl | exact (Bool.or_eq_true _ _).mpr (.inr rfl) | refine (Bool.and_eq_true _ _).mpr ⟨?_, ?_⟩)), ?_⟩
  obtain ⟨H4, hH4⟩ : ∃ H4, H4 = upd (upd h3 y (some (Blk.row (Cont.l [AVal.bool true, v2, fo false, vs1, fo true]) e0))) y (some (Blk.row (Cont.l [AVal.bool true, v2, fo false, v3, fo true]) e0)) := ⟨_, rfl⟩
  have o4 : ∀ j, j ≠ y → H4 j = h3 j := fun j hj => by rw [hH4, upd_ne _ _ hj, upd_ne _ _ hj]
  have r4 : Row H4 y [.bool true, v2, fo false, v3, fo true] := by rw [hH4]; exact Row.new _ _ _ _
  rw [← hH4]
  clear hH4
  have old4 : Old h H4 n := fun j hj => by rw [o4 j (by omega), old3 j (by omega), old2 j (by omega), o1 j hj]
  have hdn := iv.dn
  refine ⟨y, fun j => j = y ∨ ownId v2 = some j ∨ ownId v3 = some j, rfl, ⟨⟨S, ⟨v2, v3, xl, xs, ⟨r4, l2''.keep fun j q => o4 j (by have := i2 j q; omega), iv.lp.mono (fun j q => q) (fun j q => old4 j (hdn j q)), l3'.keep fun j q => o4 j (by have := i3 j q; omega), iv.sp.mono (fun j q => q) (fun j q => old4 j (hdn j q)), by omega, fun j q => by have := hdn j q; omega, fun q => by have := hdn y q; omega, fun j q => ⟨by have := i2 j q; omega, fun w => by have := hdn j w; have := i2 j q; omega⟩, fun j q => ⟨by have := i3 j q; omega, fun w => by have := hdn j w; have := i3 j q; omega, fun w => by have := i2 j w; have := i3 j q; omega⟩⟩, .inl rfl, fun j q => .inr (.inl q), fun j q => .inr (.inr q), fun j q => ?_⟩, rS, perm⟩, rL, ok⟩, fun j q => ?_, old4⟩
  · rcases q with q | q | q
    · subst q; exact ⟨by omega, fun w => by have := hdn _ w; omega⟩
    · have := i2 j q; exact ⟨by omega, fun w => by have := hdn j w; omega⟩
    · have := i3 j q; exact ⟨by omega, fun w => by have := hdn j w; omega⟩
  · rcases q with q | q | q
    · omega
    · have := i2 j q; omega
    · have := i3 j q; omega
/- IndexOrder. -/
theorem put_front {l : List Ver} {v : Ver} (h : ∀ u ∈ l, cmpV v u < 0) : putV l v = v :: l := by
  have : pos false l v = 0 := by
    unfold pos
    rw [List.countP_eq_zero]
    intro u hu
    have h1 := h u hu
    have := ordV.anti v u
    simp only [decide_eq_true_eq]
    show ¬ cmpV u v < 0
    omega
  unfold putV
  rw [this]; rfl
theorem drop_lt {L : List Ver} (r : Rises false L) {i : Nat} (hi : i < L.length) : ∀ u ∈ L.drop (i + 1), cmpV L[i] u < 0 := fun u hu => by
  obtain ⟨j, hj, rfl⟩ := List.mem_iff_getElem.1 hu
  rw [List.length_drop] at hj
  rw [List.getElem_drop]
  exact r.at_ hi (by omega) (by omega)
theorem loop6_0 (Q : Post0) (ks : List Kf) (v w : AVal) (x y n3 n4 ny : Nat) (L : List Ver) (hl : L.length ≤ 1000) (rL : Rises false L) (g : ∀ u ∈ L, Good u) (ok : ∀ u ∈ L, u.Ok ∧ u.script.length ≤ 1000000) (H0 : Hp) (hy : ny ≤ n3)
    (hT : ∀ (h : Hp) (n : Nat) (x0 x10 x11 x13 x14 x15 x16 x17 x24 x35 x44 x49 x50 x51 x52 x93 : AVal), Ixk (fun j => j < ny ∨ (n3 ≤ j ∧ j < n4)) h n y L → VL h n3 n4 v L → Old H0 h ny → n4 ≤ n → Free h n →
      Kont env 6 none Q ks (.exit 0) (x0 :: w :: AVal.junk :: AVal.junk :: .bool false :: .bool true :: .ptr x 0 :: .ptr y 0 :: v :: .int .i64 (-1) :: x10 :: x11 :: AVal.junk :: x13 :: x14 :: x15 :: x16 :: x17 :: AVal.junk :: AVal.junk :: AVal.junk :: AVal.junk :: AVal.junk :: AVal.junk :: x24 :: AVal.junk :: AVal.junk :: AVal.junk :: AVal.junk :: AVal.junk :: AVal.junk :: AVal.junk :: AVal.junk :: AVal.junk :: AVal.junk :: x35 :: AVal.junk :: AVal.junk :: AVal.junk :: AVal.junk :: AVal.junk :: AVal.junk :: AVal.junk :: AVal.junk :: x44 :: AVal.junk :: AVal.junk :: AVal.junk :: AVal.junk :: x49 :: x50 :: x51 :: x52 :: AVal.junk :: AVal.junk :: AVal.junk :: AVal.junk :: AVal.junk :: AVal.junk :: AVal.junk :: AVal.junk :: AVal.junk :: AVal.junk :: AVal.junk :: AVal.junk :: AVal.junk :: AVal.junk :: AVal.junk :: AVal.junk :: AVal.junk :: AVal.junk :: AVal.junk :: AVal.junk :: AVal.junk :: AVal.junk :: AVal.junk :: AVal.junk :: AVal.junk :: AVal.junk :: AVal.junk :: AVal.junk :: AVal.junk :: AVal.junk :: AVal.junk :: AVal.junk :: AVal.junk :: AVal.junk :: AVal.junk :: AVal.junk :: AVal.junk :: AVal.junk :: AVal.junk :: AVal.junk :: x93 :: AVal.junk :: AVal.junk :: AVal.junk :: AVal.junk :: AVal.junk :: AVal.junk :: AVal.junk :: AVal.junk :: AVal.junk :: AVal.junk :: AVal.junk :: AVal.junk :: AVal.junk :: AVal.junk :: AVal.junk :: AVal.junk :: AVal.junk :: AVal.junk :: AVal.junk :: AVal.junk :: AVal.junk :: AVal.junk :: AVal.junk :: []) h n) :
    ∀ (m : Nat) (z : Int) (h : Hp) (n : Nat) (x0 x10 x11 x13 x14 x15 x16 x17 x24 x35 x44 x49 x50 x51 x52 x93 : AVal), m ≤ L.length → z = (m : Int) - 1 → Ixk (fun j => j < ny ∨ (n3 ≤ j ∧ j < n4)) h n y (L.drop m) → VL h n3 n4 v L → Old H0 h ny → n4 ≤ n → Free h n →
      Run env 6 none Q (.loop lp6_0) ks (x0 :: w :: AVal.junk :: AVal.junk :: .bool false :: .bool true :: .ptr x 0 :: .ptr y 0 :: v :: .int .i64 z :: x10 :: x11 :: AVal.junk :: x13 :: x14 :: x15 :: x16 :: x17 :: AVal.junk :: AVal.junk :: AVal.junk :: AVal.junk :: AVal.junk :: AVal.junk :: x24 :: AVal.junk :: AVal.junk :: AVal.junk :: AVal.junk :: AVal.junk :: AVal.junk :: AVal.junk :: AVal.junk :: AVal.junk :: AVal.junk :: x35 :: AVal.junk :: AVal.junk :: AVal.junk :: AVal.junk :: AVal.junk :: AVal.junk :: AVal.junk :: AVal.junk :: x44 :: AVal.junk :: AVal.junk :: AVal.junk :: AVal.junk :: x49 :: x50 :: x51 :: x52 :: AVal.junk :: AVal.junk :: AVal.junk :: AVal.junk :: AVal.junk :: AVal.junk :: AVal.junk :: AVal.junk :: AVal.junk :: AVal.junk :: AVal.junk :: AVal.junk :: AVal.junk :: AVal.junk :: AVal.junk :: AVal.junk :: AVal.junk :: AVal.junk :: AVal.junk :: AVal.junk :: AVal.junk :: AVal.junk :: AVal.junk :: AVal.junk :: AVal.junk :: AVal.junk :: AVal.junk :: AVal.junk :: AVal.junk :: AVal.junk :: AVal.junk :: AVal.junk :: AVal.junk :: AVal.junk :: AVal.junk :: AVal.junk :: AVal.junk :: AVal.junk :: AVal.junk :: AVal.junk :: x93 :: AVal.junk :: AVal.junk :: AVal.junk :: AVal.junk :: AVal.junk :: AVal.junk :: AVal.junk :: AVal.junk :: AVal.junk :: AVal.junk :: AVal.junk :: AVal.junk :: AVal.junk :: AVal.junk :: AVal.junk :: AVal.junk :: AVal.junk :: AVal.junk :: AVal.junk :: AVal.junk :: AVal.junk :: AVal.junk :: AVal.junk :: []) h n := by
  intro m
  induction m with
  | zero =>
    intro z h n x0 x10 x11 x13 x14 x15 x16 x17 x24 x35 x44 x49 x50 x51 x52 x93 hm hz hs hv ho hn hf
    have : z = -1 := by omega
    subst this
    rw [run_loop]
    simp only [lp6_0, loopsOf, Try.f6, Option.getD_some, core1, fgr, execOp, opd, ofValue, putT, put, nth, forgetL, bor, binInt, shiftB, intOp, List.append_eq, List.cons_append, List.nil_append, List.append_nil, Int.reduceLE, Int.reduceNeg, ge_iff_le, decide_true, decide_false, List.getD_cons_zero]
    exact hT h n _ _ _ _ _ _ _ _ _ _ _ _ _ _ _ _ hs hv ho hn hf
  | succ m ih =>
    intro z h n x0 x10 x11 x13 x14 x15 x16 x17 x24 x35 x44 x49 x50 x51 x52 x93 hm hz hs hv ho hn hf
    have : z = ((m : Nat) : Int) := by omega
    subst this
    have hil : m < L.length := by omega
    have hcc : (0 : Int) ≤ ((m : Nat) : Int) := by omega
    have w1 : IntKind.i64.wrap (((m : Nat) : Int) - 1) = ((m : Nat) : Int) - 1 := w64 (by omega) (by omega)
    obtain ⟨sw, va⟩ := hv.at_ hil
    have hw : L[m] ∈ L := List.getElem_mem hil
    have gw := g _ hw
    have okw := ok _ hw
    have hlt := drop_lt rL hil
    have ed : L.drop m = L[m] :: L.drop (m + 1) := (List.getElem_cons_drop hil).symm
    generalize L[m] = u at *
    rw [run_loop]
    simp only [lp6_0, loopsOf, Try.f6, Option.getD_some, core1, fgr, execOp, opd, ofValue, putT, put, nth, forgetL, bor, binInt, shiftB, intOp, List.append_eq, List.cons_append, List.nil_append, List.append_nil, ge_iff_le, decide_true, List.getD_cons_zero, hcc]
    rw [opv_rd (hv.idx hil)]
    simp only [core1, execOp, opd, putT, put, nth]
    rw [opv_rd (va.all n)]
    simp only [core1, hkr, execOp, opd, opds, putT, put, nth, doCall, callV_func, List.nil_append, List.append_nil]
    refine opv_callf hf (f33k u sw va.ok gw.2 okw.2 hs va.s (fun j q => by have := va.sn j q; omega) (by rw [List.length_drop]; omega) hf) fun v2 h2 n2 hn2 f2 ⟨k2, hh⟩ => ?_
    rcases hh with ⟨q, _⟩ | ⟨_, e2, s2⟩
    · exfalso
      rcases q with q | ⟨a, hu, q⟩
      · rw [gw.1] at q; cases q
      · have h1 := hlt a hu
        have := ordV.anti u a
        omega
    subst e2
    rw [put_front hlt, ← ed] at s2
    simp only [core1, fgr, execOp, opd, ofValue, putT, put, nth, forgetL, bor, binInt, shiftB, intOp, wrapI, decide_true, bne_self_eq_false, w1]
    exact ih _ h2 n2 _ _ _ _ _ _ _ _ _ _ _ _ _ _ _ _ (by omega) rfl s2 (hv.keep fun j a b => k2 j (.inr ⟨a, b⟩)) (fun j hj => by rw [k2 j (.inl hj), ho j hj]) (by omega) f2
theorem loop6_1 (Q : Post0) (ks : List Kf) (v : AVal) (x y c n3 n4 : Nat) (z : Int) (L : List Ver) (hl : L.length ≤ 1000)
    (hT : ∀ (h : Hp) (n : Nat) (x0 x1 x9 x13 x14 x15 x16 x17 x24 x35 x44 x52 x93 : AVal), Ixk (fun _ => False) h n x L → Ixk (fun _ => False) h n y L → Ixk (fun _ => False) h n c L → VL h n3 n4 v L → n4 ≤ n → Free h n →
      Kont env 6 none Q ks (.exit 2) (x0 :: x1 :: AVal.junk :: AVal.junk :: .bool false :: .bool true :: .ptr x 0 :: .ptr y 0 :: v :: x9 :: .int .i64 z :: .ptr c 0 :: AVal.junk :: x13 :: x14 :: x15 :: x16 :: x17 :: AVal.junk :: AVal.junk :: AVal.junk :: AVal.junk :: AVal.junk :: AVal.junk :: x24 :: AVal.junk :: AVal.junk :: AVal.junk :: AVal.junk :: AVal.junk :: AVal.junk :: AVal.junk :: AVal.junk :: AVal.junk :: AVal.junk :: x35 :: AVal.junk :: AVal.junk :: AVal.junk :: AVal.junk :: AVal.junk :: AVal.junk :: AVal.junk :: AVal.junk :: x44 :: AVal.junk :: AVal.junk :: AVal.junk :: AVal.junk :: v :: .int .i64 (L.length : Nat) :: .int .i64 (L.length : Nat) :: x52 :: AVal.junk :: AVal.junk :: AVal.junk :: AVal.junk :: AVal.junk :: AVal.junk :: AVal.junk :: AVal.junk :: AVal.junk :: AVal.junk :: AVal.junk :: AVal.junk :: AVal.junk :: AVal.junk :: AVal.junk :: AVal.junk :: AVal.junk :: AVal.junk :: AVal.junk :: AVal.junk :: AVal.junk :: AVal.junk :: AVal.junk :: AVal.junk :: AVal.junk :: AVal.junk :: AVal.junk :: AVal.junk :: AVal.junk :: AVal.junk :: AVal.junk :: AVal.junk :: AVal.junk :: AVal.junk :: AVal.junk :: AVal.junk :: AVal.junk :: AVal.junk :: AVal.junk :: AVal.junk :: x93 :: AVal.junk :: AVal.junk :: AVal.junk :: AVal.junk :: AVal.junk :: AVal.junk :: AVal.junk :: AVal.junk :: AVal.junk :: AVal.junk :: AVal.junk :: AVal.junk :: AVal.junk :: AVal.junk :: AVal.junk :: AVal.junk :: AVal.junk :: AVal.junk :: AVal.junk :: AVal.junk :: AVal.junk :: AVal.junk :: AVal.junk :: []) h n) :
    ∀ (m i : Nat) (h : Hp) (n : Nat) (x0 x1 x9 x13 x14 x15 x16 x17 x24 x35 x44 x52 x93 : AVal), i + m = L.length → Ixk (fun _ => False) h n x L → Ixk (fun _ => False) h n y L → Ixk (fun _ => False) h n c L → VL h n3 n4 v L → n4 ≤ n → Free h n →
      Run env 6 none Q (.loop lp6_1) ks (x0 :: x1 :: AVal.junk :: AVal.junk :: .bool false :: .bool true :: .ptr x 0 :: .ptr y 0 :: v :: x9 :: .int .i64 z :: .ptr c 0 :: AVal.junk :: x13 :: x14 :: x15 :: x16 :: x17 :: AVal.junk :: AVal.junk :: AVal.junk :: AVal.junk :: AVal.junk :: AVal.junk :: x24 :: AVal.junk :: AVal.junk :: AVal.junk :: AVal.junk :: AVal.junk :: AVal.junk :: AVal.junk :: AVal.junk :: AVal.junk :: AVal.junk :: x35 :: AVal.junk :: AVal.junk :: AVal.junk :: AVal.junk :: AVal.junk :: AVal.junk :: AVal.junk :: AVal.junk :: x44 :: AVal.junk :: AVal.junk :: AVal.junk :: AVal.junk :: v :: .int .i64 (L.length : Nat) :: .int .i64 (i : Nat) :: x52 :: AVal.junk :: AVal.junk :: AVal.junk :: AVal.junk :: AVal.junk :: AVal.junk :: AVal.junk :: AVal.junk :: AVal.junk :: AVal.junk :: AVal.junk :: AVal.junk :: AVal.junk :: AVal.junk :: AVal.junk :: AVal.junk :: AVal.junk :: AVal.junk :: AVal.junk :: AVal.junk :: AVal.junk :: AVal.junk :: AVal.junk :: AVal.junk :: AVal.junk :: AVal.junk :: AVal.junk :: AVal.junk :: AVal.junk :: AVal.junk :: AVal.junk :: AVal.junk :: AVal.junk :: AVal.junk :: AVal.junk :: AVal.junk :: AVal.junk :: AVal.junk :: AVal.junk :: AVal.junk :: x93 :: AVal.junk :: AVal.junk :: AVal.junk :: AVal.junk :: AVal.junk :: AVal.junk :: AVal.junk :: AVal.junk :: AVal.junk :: AVal.junk :: AVal.junk :: AVal.junk :: AVal.junk :: AVal.junk :: AVal.junk :: AVal.junk :: AVal.junk :: AVal.junk :: AVal.junk :: AVal.junk :: AVal.junk :: AVal.junk :: AVal.junk :: []) h n := by
  intro m
  induction m with
  | zero =>
    intro i h n x0 x1 x9 x13 x14 x15 x16 x17 x24 x35 x44 x52 x93 hm sx sy sc hv hn hf
    have : i = L.length := by omega
    subst this
    have hcc : ¬ (((L.length : Nat) : Int) < ((L.length : Nat) : Int)) := by omega
    rw [run_loop]
    simp only [lp6_1, loopsOf, Try.f6, Option.getD_some, core1, fgr, execOp, opd, putT, put, nth, forgetL, bor, binInt, shiftB, intOp, List.append_eq, List.cons_append, List.nil_append, List.append_nil, decide_true, decide_false, List.getD_cons_zero, List.getD_cons_succ, hcc]
    exact hT h n _ _ _ _ _ _ _ _ _ _ _ _ _ sx sy sc hv hn hf
  | succ m ih =>
    intro i h n x0 x1 x9 x13 x14 x15 x16 x17 x24 x35 x44 x52 x93 hm sx sy sc hv hn hf
    have hil : i < L.length := by omega
    have hcc : (((i : Nat) : Int) < ((L.length : Nat) : Int)) := by omega
    have w1 : IntKind.i64.wrap (((i : Nat) : Int) + 1) = ((i + 1 : Nat) : Int) := by rw [w64 (by omega) (by omega)]; omega
    obtain ⟨sw, va⟩ := hv.at_ hil
    generalize L[i] = w at *
    have kd := va.s.kind
    rw [run_loop]
    simp only [lp6_1, loopsOf, Try.f6, Option.getD_some, core1, fgr, execOp, opd, putT, put, nth, forgetL, bor, binInt, shiftB, intOp, List.append_eq, List.cons_append, List.nil_append, List.append_nil, decide_true, List.getD_cons_zero, List.getD_cons_succ, hcc]
    rw [opv_rd (hv.idx hil)]
    simp only [core1, execOp, opd, putT, put, nth]
    rw [opv_rd (va.all n)]
    simp only [core1, execOp, putT, put]
    rw [opv_alloc ti31 rfl]
    simp only [core1, execOp, opd, putT, put, nth, cel]
    refine opv_hold (v := .agg (vcells w sw)) ti31 rfl (vcells_len va.ok.h va.ok.b) (vcells_cell kd.2.1) hf fun H1 r1 p1 f1 => ?_
    replace r1 : Row H1 n (vcells w sw) := r1
    have O1 : Old h H1 n := fun j hj => p1 j (by omega)
    have x1 := sx.grow (n' := n + 1) (by omega) O1
    have y1 := sy.old (n' := n + 1) (by omega) O1
    have c1 := sc.old (n' := n + 1) (by omega) O1
    have v1 := hv.old hn O1
    have b1' : Bytes H1 sw w.script := va.s.keep fun j q => O1 j (by have := va.sn j q; omega)
    simp only [core1, tyr, fgr, execOp, opd, putT, put, nth, forgetL, und, sizeOf, getO, moved, fieldAddr, List.getElem?_cons_zero, Nat.zero_add]
    rw [opv_rd (row_pt r1 va.ok)]
    simp only [core1, hkr, execOp, opd, opds, putT, put, nth, doCall, callV_func, List.nil_append, List.append_nil]
    refine opv_callf f1 (f37k w.hash w.pn z va.ok.h x1 (by omega) f1) fun v2 h2 n2 hn2 f2 ⟨o2, sA, e2, okA, bA, iA⟩ => ?_
    subst e2
    obtain ⟨oa, hoa⟩ : ∃ oa, oa = atV L w.hash w.pn z := ⟨_, rfl⟩
    rw [← hoa] at okA bA
    rw [← hoa]
    have x2 := x1.old hn2 o2
    have y2 := y1.old hn2 o2
    have c2 := c1.old hn2 o2
    have v2 := v1.old (by omega) o2
    have r2 := r1.keep (o2 n (by omega))
    simp only [core1, execOp, opd, putT, put, nth, extract, getO, List.getElem?_cons_succ, List.getElem?_cons_zero]
    rw [opv_alloc ti31 rfl]
    simp only [core1, execOp, opd, putT, put, nth, cel]
    refine opv_hold (v := .agg (vcells (oa.getD noV) sA)) ti31 rfl (vcells_len okA.h okA.b) (vcells_cell bA.kind.2.1) f2 fun H3 rA p3 f3 => ?_
    replace rA : Row H3 n2 (vcells (oa.getD noV) sA) := rA
    have O3 : Old h2 H3 n2 := fun j hj => p3 j (by omega)
    have x3 := x2.old (n' := n2 + 1) (by omega) O3
    have y3 := y2.old (n' := n2 + 1) (by omega) O3
    have c3 := c2.old (n' := n2 + 1) (by omega) O3
    have v3 := v2.old (by omega) O3
    have r3 := r2.keep (p3 n (by omega))
    have bA3 := bA.keep (h' := H3) fun j q => p3 j (by have := iA j q; omega)
    simp only [core1, tyr, fgr, execOp, opd, putT, put, nth, forgetL, und, sizeOf, getO, moved, fieldAddr, List.getElem?_cons_zero, Nat.zero_add]
    rw [opv_rd (row_pt r3 va.ok)]
    simp only [core1, hkr, execOp, opd, opds, putT, put, nth, doCall, callV_func, List.nil_append, List.append_nil]
    refine opv_callf f3 (f37k w.hash w.pn z va.ok.h y3 (by omega) f3) fun v4 h4 n4' hn4 f4 ⟨o4, sB, e4, okB, bB, iB⟩ => ?_
    subst e4
    rw [← hoa] at okB bB
    rw [← hoa]
    have x4 := x3.old hn4 o4
    have y4 := y3.old hn4 o4
    have c4 := c3.old hn4 o4
    have v4 := v3.old (by omega) o4
    have r4 := r3.keep (o4 n (by omega))
    have rA4 := rA.keep (o4 n2 (by omega))
    have bA4 := bA3.keep (h' := h4) fun j q => o4 j (by have := iA j q; omega)
    simp only [core1, execOp, opd, putT, put, nth, extract, getO, List.getElem?_cons_succ, List.getElem?_cons_zero]
    rw [opv_alloc ti31 rfl]
    simp only [core1, execOp, opd, putT, put, nth, cel]
    refine opv_hold (v := .agg (vcells (oa.getD noV) sB)) ti31 rfl (vcells_len okB.h okB.b) (vcells_cell bB.kind.2.1) f4 fun H5 rB p5 f5 => ?_
    replace rB : Row H5 n4' (vcells (oa.getD noV) sB) := rB
    have O5 : Old h4 H5 n4' := fun j hj => p5 j (by omega)
    have x5 := x4.old (n' := n4' + 1) (by omega) O5
    have y5 := y4.old (n' := n4' + 1) (by omega) O5
    have c5 := c4.old (n' := n4' + 1) (by omega) O5
    have v5 := v4.old (by omega) O5
    have r5 := r4.keep (p5 n (by omega))
    have rA5 := rA4.keep (p5 n2 (by omega))
    have bA5 := bA4.keep (h' := H5) fun j q => p5 j (by have := iA j q; omega)
    have bB5 := bB.keep (h' := H5) fun j q => p5 j (by have := iB j q; omega)
    have bw5 : Bytes H5 sw w.script := b1'.keep fun j q => by
      have := va.sn j q
      rw [p5 j (by omega), o4 j (by omega), p3 j (by omega), o2 j (by omega)]
    have ebb : ∀ b : Bool, (b != b) = false := fun b => by cases b <;> rfl
    simp only [core1, fgr, execOp, opd, putT, put, nth, forgetL]
    refine run_draw.2 ⟨rfl, ?_⟩
    simp only [fe_cons, fe_guard, fego_some, feg_bool, feg_ff, fev_pure, core1, tyr, execOp, opd, putT, put, nth, und, bor, binOther, strK, aggK, equalTop, equal, nilFn, nilPtr, boolOf, List.getElem?_cons_succ, List.getElem?_cons_zero, Nat.reduceAdd, Bool.not_true, Nat.zero_add, beq_self_eq_true]
    rw [fev_rd (row_all rA5 okA)]
    simp only [fe_guard, fego_some, feg_bool, feg_ff, execOp, opd, putT, put, nth, List.getElem?_cons_succ, List.getElem?_cons_zero, Nat.reduceAdd]
    rw [fev_rd (row_all rB okB)]
    simp only [fe_guard, fego_some, feg_bool, feg_ff, hkr, execOp, opd, opds, putT, put, nth, doCall, callV_func, List.getElem?_cons_succ, List.getElem?_cons_zero, List.nil_append, List.append_nil, Nat.reduceAdd]
    refine fev_any f5 (f42 (oa.getD noV) (oa.getD noV) sA sB okA okB H5 (n4' + 1) bA5 bB5 (fun j q => by have := iA j q; omega) (fun j q => by have := iB j q; omega) f5) fun v6 h6 n6 rr6 w6 hn6 f6 ⟨e6, o6⟩ => ?_
    subst e6
    have x6 := x5.old hn6 o6
    have y6 := y5.old hn6 o6
    have c6 := c5.old hn6 o6
    have v6 := v5.old (by omega) o6
    have r6 := r5.keep (o6 n (by omega))
    have bw6 : Bytes h6 sw w.script := bw5.keep fun j q => o6 j (by have := va.sn j q; omega)
    simp only [fe_cons, fe_guard, fego_some, feg_bool, feg_ff, fev_ask, fev_pure, core1, tyr, execOp, opd, ofValue, putT, put, nth, und, sizeOf, unOp, doPick, branch, getO, moved, fieldAddr, List.getElem?_cons_succ, List.getElem?_cons_zero, Nat.reduceAdd, Bool.not_true, Nat.zero_add, eqVr_refl]
    rw [fev_rd (row_script r6 va.ok)]
    simp only [fe_guard, fego_some, feg_bool, feg_ff, fev_pure, hkr, execOp, opd, opds, putT, put, nth, doCall, callV_func, List.getElem?_cons_succ, List.getElem?_cons_zero, List.nil_append, List.append_nil, Nat.reduceAdd]
    have only6 : ∀ j, ¬ (False ∨ n ≤ j ∧ j < n + 1) → only (fun j => decide (j ≠ n)) h6 j = h6 j := fun j hj => only_in (decide_eq_true (by omega))
    refine fev_in (fun j => decide (j ≠ n)) f6 (f43k sw w.script z (x6.touch only6) (bw6.keep fun j q => only_in (decide_eq_true (by have := va.sn j q; omega))) (fun j q => by have := va.sn j q; omega) (by omega) f6.only) fun v7 h7 n7 rr7 w7 hr7 hn7 f7 ⟨l7, o7⟩ hin hout hr hw => ?_
    have O7 : Old h6 h7 n6 := fun j hj => by
      by_cases q : j = n
      · exact hout j hj (decide_eq_false (by omega))
      · rw [hin j (.inl (decide_eq_true q)), o7 j hj, only_in (decide_eq_true q)]
    have l7' : VL h7 n6 n7 v7 (ofV L w.script z) := l7.keep fun j a b => hin j (.inr a)
    have x7 := x6.old hn7 O7
    have y7 := y6.old hn7 O7
    have c7 := c6.old hn7 O7
    have v7' := v6.old (by omega) O7
    have r7 := r6.keep (O7 n (by omega))
    have bw7 : Bytes h7 sw w.script := bw6.keep fun j q => O7 j (by have := va.sn j q; omega)
    simp only [fe_guard, fego_some, feg_bool, feg_ff, fev_pure, core1, tyr, execOp, opd, putT, put, nth, und, sizeOf, getO, moved, fieldAddr, List.getElem?_cons_succ, List.getElem?_cons_zero, Nat.reduceAdd, Nat.zero_add]
    rw [fev_rd (row_script r7 va.ok)]
    simp only [fe_guard, fego_some, feg_bool, feg_ff, fev_pure, hkr, execOp, opd, opds, putT, put, nth, doCall, callV_func, List.getElem?_cons_succ, List.getElem?_cons_zero, List.nil_append, List.append_nil, Nat.reduceAdd]
    refine fev_any f7 (f43k sw w.script z y7 bw7 (fun j q => by have := va.sn j q; omega) (by omega) f7) fun v8 h8 n8 rr8 w8 hn8 f8 ⟨l8, o8⟩ => ?_
    have x8 := x7.old hn8 o8
    have y8 := y7.old hn8 o8
    have c8 := c7.old hn8 o8
    have v8' := v7'.old (by omega) o8
    have l7'' := l7'.old (Nat.le_refl _) o8
    simp only [fe_guard, fego_some, feg_bool, feg_ff, hkr, execOp, opd, opds, putT, put, nth, doCall, callV_func, List.getElem?_cons_succ, List.getElem?_cons_zero, List.nil_append, List.append_nil, Nat.reduceAdd]
    refine fev_any f8 (lists_wp l7'' l8 (by omega) (Nat.le_refl _) (Nat.le_trans (List.length_filter_le _ _) (by omega)) f8) fun v9 h9 n9 rr9 w9 hn9 f9 ⟨e9, o9⟩ => ?_
    subst e9
    have x9 := x8.old hn9 o9
    have y9 := y8.old hn9 o9
    have c9 := c8.old hn9 o9
    have v9' := v8'.old (by omega) o9
    simp only [fe_nil, fe_cons, fe_guard, fego_some, feg_bool, feg_ff, fev_ask, fev_pure, core1, fgr, execOp, opd, ofValue, putT, put, nth, forgetL, bor, binInt, shiftB, intOp, wrapI, unOp, doPick, branch, List.getElem?_cons_succ, List.getElem?_cons_zero, Nat.reduceAdd, decide_true, Bool.not_true, eqL_refl]
    have nw7 : n ∉ w7 := fun q => (of_decide_eq_true (hw n q)) rfl
    refine ⟨(by (try simp (disch := first | assumption | omega) only [fine, List.all_cons, List.all_nil, clash_pl, clash_pr, clash_rr, Bool.not_false, Bool.true_or, Bool.and_true, Bool.true_and, clash_xs, clash_sx]); repeat' (first | rfl | exact (Bool.or_eq_true _ _).mpr (.inr rfl) | refine (Bool.and_eq_true _ _).mpr ⟨?_, ?_⟩)), ?_⟩
    simp only [w1]
    exact ih (i + 1) h9 n9 _ _ _ _ _ _ _ _ _ _ _ _ _ (by omega) (x9.sub fun j q => q.elim) y9 c9 v9' (by omega) f9
theorem law6 (v0 : AVal) (hv0 : Arg Try.prog 65 [v0]) (a1 : Int) (w1 : (Lit.int .i8 a1).wf = true) :
    Wp (callI env (evalW env) 6 [v0, .int .i8 a1]) (fun _ => none) 0 fun v _ _ => v = .bool true := by
  obtain ⟨os, xs, ha⟩ := arg_ops hv0
  have hz : -128 ≤ a1 ∧ a1 ≤ 127 := by
    simp only [Lit.wf, Bool.and_eq_true, decide_eq_true_eq] at w1
    exact w1
  have wz : IntKind.i64.wrap a1 = a1 := w64 (by omega) (by omega)
  refine wp_callI ff6 fi6 ?_
  simp only [fu6, Try.f6, Option.getD_some, List.replicate, core1, fgr, hkr, execOp, opd, opds, ofValue, putT, put, forgetL, doCall, callV_func, ended, resultOf, oneOrTup, List.append_eq, List.cons_append, List.nil_append, List.append_nil, List.length_cons, List.length_nil, Nat.reduceAdd, Nat.reduceSub, Nat.zero_add, wp_pure]
  refine opv_callf Free.none (f29 _ _ Free.none) fun v2 h2 n2 hn2 f2 ⟨e2, o2⟩ => ?_
  subst e2
  simp only [core1, fgr, hkr, execOp, opd, opds, putT, put, nth, forgetL, doCall, callV_func, List.nil_append, List.append_nil]
  refine opv_same (f30 v0 os xs h2 n2 ha) ?_
  cases hg : greatI os with
  | true =>
    simp only [core1, fgr, execOp, opd, ofValue, putT, put, nth, forgetL, doPick, branch, List.getElem?_cons_succ, List.getElem?_cons_zero, and_self]
  | false =>
  simp only [core1, fgr, hkr, execOp, opd, opds, ofValue, putT, put, nth, forgetL, doCall, callV_func, unOp, doPick, branch, List.getElem?_cons_succ, List.getElem?_cons_zero, List.nil_append, List.append_nil, Bool.not_true]
  refine opv_callf f2 (f31 v0 os xs h2 n2 ha hg f2) fun v3 h3 n3 hn3 f3 ⟨x, L, e3, hx, s3, S3, o3⟩ => ?_
  subst e3
  have len3 : L.length ≤ 900000 := by have := S3.len; omega
  simp only [core1, hkr, execOp, opd, opds, putT, put, doCall, callV_func, List.append_nil]
  refine opv_callf f3 (f40k h3 n3 f3) fun v4 h4 n4 hn4 f4 ⟨y, e4, hy, s4, o4⟩ => ?_
  subst e4
  have x4 := s3.old hn4 o4
  simp only [core1, fgr, hkr, execOp, opd, opds, putT, put, nth, forgetL, doCall, callV_func, List.nil_append, List.append_nil]
  refine opv_callf f4 (f32k x4 len3 f4) fun v5 h5 n5 hn5 f5 ⟨l5, o5⟩ => ?_
  have x5 := x4.old hn5 o5
  have y5 := s4.grow hn5 o5
  have wl : IntKind.i64.wrap (((L.length : Nat) : Int) - 1) = ((L.length : Nat) : Int) - 1 := w64 (by omega) (by omega)
  simp only [core1, fgr, execOp, opd, opds, ofValue, putT, put, nth, forgetL, doCall, builtin, one1, bor, binInt, shiftB, intOp, wrapI, decide_true, l5.len, wl]
  have o45 : Old h3 h5 n3 := fun j hj => by rw [o5 j (by omega), o4 j hj]
  refine loop6_0 _ _ v5 (.int .i8 a1) x y n4 n5 n3 L (by have := S3.len; omega) x5.rL x5.g x5.ok h3 hn4 ?_ L.length _ h5 n5 _ _ _ _ _ _ _ _ _ _ _ _ _ _ _ _ (Nat.le_refl _) rfl (by rw [List.drop_length]; exact y5) l5 o45 (Nat.le_refl _) f5
  intro h6 n6 x0 x10 x11 x13 x14 x15 x16 x17 x24 x35 x44 x49 x50 x51 x52 x93 y6 l6 o6 hn6 f6
  have x6 := s3.old (n' := n6) (by omega) o6
  simp only [core1, tyr, fgr, hkr, execOp, opd, opds, putT, put, nth, forgetL, doCall, callV_func, und, lenOf, wrapI, strK, intK, List.nil_append, List.append_nil, Int.reduceNeg, convert, convStr, isU8, wz]
  have xi := x6
  obtain ⟨⟨D, M, ix, _⟩, gL⟩ := xi
  refine opv_callf f6 (f41 x L D M h6 n6 ix (Nat.le_trans len3 (by decide)) f6) fun v7 h7 n7 hn7 f7 ⟨c, M', e7, i7, hM, o7⟩ => ?_
  subst e7
  have x7 := (x6.old hn7 o7).sub (K' := fun _ => False) fun j q => q.elim
  have y7 := (y6.old hn7 o7).sub (K' := fun _ => False) fun j q => q.elim
  have c7 : Ixk (fun _ => False) h7 n7 c L := ⟨⟨D, M', i7, fun j q => q.elim⟩, gL⟩
  have l7 := l6.old hn6 o7
  simp only [core1, fgr, execOp, opd, opds, ofValue, putT, put, nth, forgetL, doCall, builtin, one1, Int.reduceNeg, l7.len]
  refine loop6_1 _ _ v5 x y c n4 n5 a1 L (by have := S3.len; omega) ?_ L.length 0 h7 n7 _ _ _ _ _ _ _ _ _ _ _ _ _ (by omega) x7 y7 c7 l7 (by omega) f7
  intro h8 n8 x0 x1 x9 x13 x14 x15 x16 x17 x24 x35 x44 x52 x93 x8 y8 c8 l8 hn8 f8
  simp only [core1, hkr, execOp, opd, opds, putT, put, nth, doCall, callV_func, List.getElem?_cons_succ, List.getElem?_cons_zero, List.nil_append, List.append_nil]
  refine opv_callf f8 (f32k y8 len3 f8) fun v9 h9 n9 hn9 f9 ⟨l9, o9⟩ => ?_
  have x9 := x8.old hn9 o9
  have y9 := y8.old hn9 o9
  have c9 := c8.old hn9 o9
  have k9 := l8.old hn8 o9
  simp only [core1, hkr, execOp, opd, opds, putT, put, nth, doCall, callV_func, List.getElem?_cons_succ, List.getElem?_cons_zero, List.nil_append, List.append_nil]
  refine opv_callf f9 (lists_wp l9 k9 (Nat.le_refl _) (by omega) (by omega) f9) fun v10 h10 n10 hn10 f10 ⟨e10, o10⟩ => ?_
  subst e10
  have x10 := x9.old hn10 o10
  have y10 := y9.old hn10 o10
  have c10 := c9.old hn10 o10
  have k10 := k9.old (by omega) o10
  simp only [core1, hkr, execOp, opd, opds, ofValue, putT, put, nth, doCall, callV_func, doPick, branch, List.getElem?_cons_succ, List.getElem?_cons_zero, List.nil_append, List.append_nil, eqL_refl]
  refine opv_callf f10 (f32k c10 len3 f10) fun v11 h11 n11 hn11 f11 ⟨l11, o11⟩ => ?_
  have x11 := x10.old hn11 o11
  have y11 := y10.old hn11 o11
  have k11 := k10.old (by omega) o11
  simp only [core1, hkr, execOp, opd, opds, putT, put, nth, doCall, callV_func, List.getElem?_cons_succ, List.getElem?_cons_zero, List.nil_append, List.append_nil]
  refine opv_callf f11 (lists_wp l11 k11 (Nat.le_refl _) (by omega) (by omega) f11) fun v12 h12 n12 hn12 f12 ⟨e12, o12⟩ => ?_
  subst e12
  have x12 := x11.old hn12 o12
  have y12 := y11.old hn12 o12
  simp only [core1, hkr, execOp, opd, opds, ofValue, putT, put, nth, doCall, callV_func, doPick, branch, List.getElem?_cons_succ, List.getElem?_cons_zero, List.nil_append, List.append_nil, eqL_refl]
  refine opv_callf f12 (f39k a1 x12 len3 f12) fun v13 h13 n13 hn13 f13 ⟨l13, o13⟩ => ?_
  have y13 := y12.old hn13 o13
  simp only [core1, hkr, execOp, opd, opds, putT, put, nth, doCall, callV_func, List.getElem?_cons_succ, List.getElem?_cons_zero, List.nil_append, List.append_nil]
  refine opv_callf f13 (f39k a1 y13 len3 f13) fun v14 h14 n14 hn14 f14 ⟨l14, o14⟩ => ?_
  have l13' := l13.old (Nat.le_refl _) o14
  simp only [core1, hkr, execOp, opd, opds, putT, put, nth, doCall, callV_func, List.getElem?_cons_succ, List.getElem?_cons_zero, List.nil_append, List.append_nil]
  refine opv_callf f14 (lists_wp l13' l14 (by omega) (Nat.le_refl _) (Nat.le_trans (List.length_filter_le _ _) (by omega)) f14) fun v15 h15 n15 hn15 f15 ⟨e15, o15⟩ => ?_
  subst e15
  simp only [core1, fgr, execOp, opd, ofValue, putT, put, nth, forgetL, doPick, branch, and_self, eqL_refl]
end Go.Am.Ytlgebaofkolkoaa
