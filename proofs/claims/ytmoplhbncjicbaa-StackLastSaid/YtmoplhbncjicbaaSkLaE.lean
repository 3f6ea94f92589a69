/- The functions that the statement reaches, gone through. -/
import Derived.Test.YtmoplhbncjicbaaSkLaD
set_option linter.unusedSimpArgs false
set_option linter.unusedVariables false
set_option linter.defProp false
set_option maxRecDepth 10000
namespace Go.Am.Ytmoplhbncjicbaa
open Go Go.Am Go.Proofs
theorem f36 (v : AVal) (xs : List AVal) (ls : List (List UInt8)) (D : Nat → Prop) (h : Hp) (n : Nat) (hlen : ls.length ≤ 9223372036854775807) (hv : Rds h 1 v ls.length xs) (hel : Els h D xs ls) :
    Wp (callI env (evalW env) 36 [v, .nils]) h n fun v' h' n' => v' = .bool (greatV ls) ∧ h' = h ∧ n' = n := by
  refine wp_callI ff36 fi36 ?_
  simp only [fu36, Try.f36, Option.getD_some, List.replicate, core1, fgr, execOp, opd, opds, ofValue, putT, put, nth, forgetL, doCall, builtin, one1, ended, resultOf, oneOrTup, List.cons_append, List.nil_append, List.length_cons, List.length_nil, Nat.reduceAdd, Nat.reduceSub, Nat.zero_add, wp_pure, hv.bLen u53]
  refine loop36 _ _ v .nils xs ls D h n hlen hv hel ?_ ?_ ls.length 0 _ _ _ _ _ _ _ _ (by omega) rfl
  · intro x5 x6 x10 x17 x20 x21 x22 x30 ha
    simp only [core1, fgr, execOp, opd, opds, ofValue, putT, put, nth, forgetL, doCall, builtin, one1, blr]
    rw [run_loop]
    by_cases h150 : 150 < ls.length
    · have hc : 150 < ((ls.length : Nat) : Int) := by omega
      simp only [core1, fgr, execOp, opd, opds, ofValue, putT, put, nth, forgetL, doCall, builtin, one1, bor, binInt, shiftB, intOp, doPick, branch, List.getElem?_cons_succ, List.getElem?_cons_zero, Int.reduceLT, gt_iff_lt, decide_true, decide_false, Bool.or_true, and_self, hv.bLen u53, hc, greatV, ha, h150]
    · have hc : ¬ 150 < ((ls.length : Nat) : Int) := by omega
      simp only [core1, fgr, execOp, opd, opds, ofValue, putT, put, nth, forgetL, doCall, builtin, one1, blr, bor, binInt, shiftB, intOp, doPick, branch, List.getElem?_cons_succ, List.getElem?_cons_zero, Int.reduceLT, gt_iff_lt, decide_true, decide_false, Bool.or_false, and_self, hv.bLen u53, hc, greatV, ha, h150]
  · intro x5 x6 x10 x17 x20 x21 x22 x30 z ha
    simp only [core1, nth, Bool.true_or, and_self, greatV, ha]
/- What was pushed is popped, the last one first: the statement. -/
def goes (l : List UInt8) : Bool := !longB l
def went (ms : List (List UInt8)) : List (List UInt8) := ms.filter goes
theorem went_succ {ms : List (List UInt8)} {i : Nat} (hi : i < ms.length) : went (ms.take (i + 1)) = went (ms.take i) ++ (if goes ms[i] = true then [ms[i]] else []) := by
  unfold went
  rw [List.take_add_one, List.getElem?_eq_getElem hi, Option.toList_some, List.filter_append]
  congr 1
  cases h : goes ms[i] <;> simp [List.filter, h]
theorem went_len (ms : List (List UInt8)) : (went ms).length ≤ ms.length := List.length_filter_le _ _
theorem went_ok {ms : List (List UInt8)} : ∀ l ∈ went ms, l.length ≤ 520 := fun l hl => by
  unfold went at hl
  have := (List.mem_filter.1 hl).2
  unfold goes longB at this
  simp at this
  exact this
/-- A stack, and a list of what stands in arguments. -/
def Two (h : Hp) (n n0 p : Nat) (v8 : AVal) (zs : List AVal) (ls ps : List (List UInt8)) : Prop :=
  Lst h 22 1 v8 ps.length zs ∧ (∀ h, Els h (fun _ => False) zs ps) ∧ ∃ D M, Stk h n D M p ls [] ∧ (∀ j, D j → n0 ≤ j) ∧ (∀ j, M j → n0 ≤ j) ∧ ∀ j, ownId v8 = some j → n0 ≤ j ∧ j < n ∧ ¬ D j ∧ ¬ M j
set_option maxHeartbeats 8000000 in
theorem loop13a (Q : Post0) (ks : List Kf) (p n0 : Nat) (v w : AVal) (ys : List AVal) (ls ms : List (List UInt8)) (hm : ArgL w ms ys) (hls : ls.length ≤ 50) (hms : ms.length ≤ 20)
    (hq : ∀ (h : Hp) n v8 zs (x9 x10 x11 x12 x13 x14 x35 x43 x52 x60 x73 x108 : AVal), Two h n n0 p v8 zs (ls ++ went ms) (went ms) → n0 ≤ n → Free h n → Kont env 13 none Q ks (.exit 0) (v :: w :: AVal.junk :: AVal.junk :: .bool false :: .bool true :: .ptr p 0 :: .int .i64 0 :: v8 :: x9 :: x10 :: x11 :: x12 :: x13 :: x14 :: AVal.junk :: AVal.junk :: AVal.junk :: AVal.junk :: AVal.junk :: AVal.junk :: AVal.junk :: AVal.junk :: AVal.junk :: AVal.junk :: AVal.junk :: AVal.junk :: AVal.junk :: AVal.junk :: AVal.junk :: AVal.junk :: AVal.junk :: AVal.junk :: AVal.junk :: AVal.junk :: x35 :: AVal.junk :: AVal.junk :: AVal.junk :: AVal.junk :: AVal.junk :: AVal.junk :: AVal.junk :: x43 :: AVal.junk :: AVal.junk :: AVal.junk :: AVal.junk :: AVal.junk :: AVal.junk :: .int .i64 (ms.length : Nat) :: .int .i64 (ms.length : Nat) :: x52 :: AVal.junk :: AVal.junk :: AVal.junk :: AVal.junk :: AVal.junk :: AVal.junk :: AVal.junk :: x60 :: AVal.junk :: AVal.junk :: AVal.junk :: AVal.junk :: AVal.junk :: AVal.junk :: AVal.junk :: AVal.junk :: AVal.junk :: AVal.junk :: AVal.junk :: AVal.junk :: x73 :: AVal.junk :: AVal.junk :: AVal.junk :: AVal.junk :: AVal.junk :: AVal.junk :: AVal.junk :: AVal.junk :: AVal.junk :: AVal.junk :: AVal.junk :: AVal.junk :: AVal.junk :: AVal.junk :: AVal.junk :: AVal.junk :: AVal.junk :: AVal.junk :: AVal.junk :: AVal.junk :: AVal.junk :: AVal.junk :: AVal.junk :: AVal.junk :: AVal.junk :: AVal.junk :: AVal.junk :: AVal.junk :: AVal.junk :: AVal.junk :: AVal.junk :: AVal.junk :: AVal.junk :: AVal.junk :: x108 :: AVal.junk :: AVal.junk :: AVal.junk :: AVal.junk :: AVal.junk :: AVal.junk :: AVal.junk :: []) h n) :
    ∀ (m i : Nat) (h : Hp) (n : Nat) (v8 : AVal) (zs : List AVal) (x9 x10 x11 x12 x13 x14 x35 x43 x52 x60 x73 x108 : AVal), i + m = ms.length → Two h n n0 p v8 zs (ls ++ went (ms.take i)) (went (ms.take i)) → n0 ≤ n → Free h n →
    Run env 13 none Q (.loop lp13_0) ks (v :: w :: AVal.junk :: AVal.junk :: .bool false :: .bool true :: .ptr p 0 :: .int .i64 0 :: v8 :: x9 :: x10 :: x11 :: x12 :: x13 :: x14 :: AVal.junk :: AVal.junk :: AVal.junk :: AVal.junk :: AVal.junk :: AVal.junk :: AVal.junk :: AVal.junk :: AVal.junk :: AVal.junk :: AVal.junk :: AVal.junk :: AVal.junk :: AVal.junk :: AVal.junk :: AVal.junk :: AVal.junk :: AVal.junk :: AVal.junk :: AVal.junk :: x35 :: AVal.junk :: AVal.junk :: AVal.junk :: AVal.junk :: AVal.junk :: AVal.junk :: AVal.junk :: x43 :: AVal.junk :: AVal.junk :: AVal.junk :: AVal.junk :: AVal.junk :: AVal.junk :: .int .i64 (ms.length : Nat) :: .int .i64 (i : Nat) :: x52 :: AVal.junk :: AVal.junk :: AVal.junk :: AVal.junk :: AVal.junk :: AVal.junk :: AVal.junk :: x60 :: AVal.junk :: AVal.junk :: AVal.junk :: AVal.junk :: AVal.junk :: AVal.junk :: AVal.junk :: AVal.junk :: AVal.junk :: AVal.junk :: AVal.junk :: AVal.junk :: x73 :: AVal.junk :: AVal.junk :: AVal.junk :: AVal.junk :: AVal.junk :: AVal.junk :: AVal.junk :: AVal.junk :: AVal.junk :: AVal.junk :: AVal.junk :: AVal.junk :: AVal.junk :: AVal.junk :: AVal.junk :: AVal.junk :: AVal.junk :: AVal.junk :: AVal.junk :: AVal.junk :: AVal.junk :: AVal.junk :: AVal.junk :: AVal.junk :: AVal.junk :: AVal.junk :: AVal.junk :: AVal.junk :: AVal.junk :: AVal.junk :: AVal.junk :: AVal.junk :: AVal.junk :: AVal.junk :: x108 :: AVal.junk :: AVal.junk :: AVal.junk :: AVal.junk :: AVal.junk :: AVal.junk :: AVal.junk :: []) h n := by
  intro m
  induction m with
  | zero =>
    intro i h n v8 zs x9 x10 x11 x12 x13 x14 x35 x43 x52 x60 x73 x108 hi ht hn hf
    have : i = ms.length := by omega
    subst this
    have hc : ¬ ((ms.length : Nat) : Int) < ((ms.length : Nat) : Int) := by omega
    rw [run_loop]
    simp only [lp13_0, loopsOf, Try.f13, Option.getD_some, core1, fgr, execOp, opd, putT, put, nth, forgetL, bor, binInt, shiftB, intOp, List.append_eq, List.cons_append, List.nil_append, List.append_nil, decide_true, decide_false, List.getD_cons_zero, hc]
    rw [List.take_length] at ht
    exact hq h n v8 zs _ _ _ _ _ _ _ _ _ _ _ _ ht hn hf
  | succ m ih =>
    intro i h n v8 zs x9 x10 x11 x12 x13 x14 x35 x43 x52 x60 x73 x108 hi ht hn hf
    obtain ⟨l8, e8, D, M, s, hd, hmm, hv⟩ := ht
    have hil : i < ms.length := by omega
    have hc : ((i : Nat) : Int) < ((ms.length : Nat) : Int) := by omega
    have hwr : IntKind.i64.wrap (((i : Nat) : Int) + 1) = ((i + 1 : Nat) : Int) := by rw [w64 (by omega) (by omega)]; omega
    have hwl := went_len (ms.take i)
    rw [List.length_take] at hwl
    obtain ⟨x, hx1, hx2⟩ := (hm.el h).get hil
    rw [run_loop]
    simp only [lp13_0, loopsOf, Try.f13, Option.getD_some, core1, fgr, execOp, opd, putT, put, nth, forgetL, bor, binInt, shiftB, intOp, List.append_eq, List.cons_append, List.nil_append, List.append_nil, decide_true, List.getD_cons_zero, hc]
    rw [opv_rd ((hm.rd h).idx (j := i) u53 s22 rfl hil)]
    simp only [core1, execOp, opd, putT, put, nth, Nat.mul_one]
    rw [opv_rd ((hm.rd h).load (k := i) ti22 rfl hx1)]
    simp only [core1, hkr, execOp, opd, opds, putT, put, nth, doCall, callV_func, List.nil_append, List.append_nil]
    refine opv_callf hf (f45 p x ms[i] _ [] D M h n s (by rw [List.length_append, List.length_nil]; omega) hx2.1 hf) fun v1 h1 n1 hn1 f1 ⟨e1, D', M', s1, c1⟩ => ?_
    subst e1
    have l81 : Lst h1 22 1 v8 (went (ms.take i)).length zs := l8.keep fun j hj => c1.old j (hv j hj).2.1 (hv j hj).2.2.2
    have hv1 : ∀ j, ownId v8 = some j → n0 ≤ j ∧ j < n1 ∧ ¬ D' j ∧ ¬ M' j := fun j hj => by
      have := hv j hj
      exact ⟨this.1, by omega, fun q => (c1.d' j q).elim this.2.2.1 (fun q => by omega), fun q => (c1.m' j q).elim this.2.2.2 (fun q => by omega)⟩
    have hd1 : ∀ j, D' j → n0 ≤ j := fun j hj => (c1.d' j hj).elim (hd j) (fun q => by omega)
    have hm1 : ∀ j, M' j → n0 ≤ j := fun j hj => (c1.m' j hj).elim (hmm j) (fun q => by omega)
    rcases pushE_cases (ls ++ went (ms.take i)) [] ms[i] with ⟨a, ce⟩ | ⟨a, b, ce⟩ | ⟨a, b, ce⟩
    · have hg : goes ms[i] = false := by unfold goes longB; simp; omega
      have hpl : pushL (ls ++ went (ms.take i)) [] ms[i] = ls ++ went (ms.take i) := by unfold pushL; rw [ce, if_neg (by decide)]
      rw [hpl] at s1
      have hws := went_succ hil
      rw [hg, if_neg (by decide), List.append_nil] at hws
      simp only [core1, fgr, execOp, opd, ofValue, putT, put, nth, forgetL, bor, binInt, shiftB, intOp, wrapI, int_beq, Int.reduceEq, decide_true, decide_false, ce, hwr]
      exact ih (i + 1) h1 n1 v8 zs _ _ _ _ _ _ _ _ _ _ _ _ (by omega) (by rw [hws]; exact ⟨l81, e8, D', M', s1, hd1, hm1, hv1⟩) (by omega) f1
    · rw [List.length_append, List.length_nil] at b; omega
    · have hg : goes ms[i] = true := by unfold goes longB; simp; omega
      have hpl : pushL (ls ++ went (ms.take i)) [] ms[i] = ls ++ went (ms.take i) ++ [ms[i]] := by unfold pushL; rw [ce, if_pos rfl]
      rw [hpl] at s1
      have hws := went_succ hil
      rw [hg, if_pos rfl] at hws
      have hx1' := hx1
      simp only [core1, fgr, execOp, opd, ofValue, putT, put, nth, forgetL, bor, binInt, shiftB, intOp, decide_true, beq_self_eq_true, ce]
      rw [opv_rd ((hm.rd h1).idx (j := i) u53 s22 rfl hil)]
      simp only [core1, execOp, opd, putT, put, nth, Nat.mul_one]
      rw [opv_rd ((hm.rd h1).load (k := i) ti22 rfl hx1)]
      simp only [core1, execOp, opd, ops2, putT, put, nth]
      rw [bs22 x hx2.1.kind]
      refine opv_row ti22 f1 fun h2 g2 o2 f2 => ?_
      have l82 : Lst h2 22 1 v8 (went (ms.take i)).length zs := l81.keep fun j hj => o2 j (by have := (hv1 j hj).2.1; omega)
      have s2 := s1.old (n' := n1 + 1) (by omega) (fun j hj => o2 j (by omega))
      simp only [core1, execOp, opd, opds, putT, put, nth, doCall, builtin, two2]
      refine opv_lst_append (i := ⟨.slice 5, 1, 24, .nils⟩) (e := 22) (k := 1) (ys := [x]) l82 (row_rds g2 rfl) u53 u53 ti22 (by simp [hx2.1.kind.2.1]) (by decide) (by show 2 * ((went (ms.take i)).length + 1) * 24 ≤ _; omega) (by omega) f2 ?_
      intro v3 h3 n3 hn3 f3 l3 i3 o3
      simp only [core1, fgr, execOp, opd, ofValue, putT, put, nth, forgetL, bor, binInt, shiftB, intOp, wrapI, decide_true, hwr]
      refine ih (i + 1) h3 n3 v3 (zs ++ [x]) _ _ _ _ _ _ _ _ _ _ _ _ (by omega) ?_ (by omega) f3
      rw [hws]
      refine ⟨by rw [List.length_append]; exact l3, fun H => (e8 H).app (Els.one ?_), D', M', ?_, hd1, hm1, fun j hj => ?_⟩
      · obtain ⟨x', hx1'', hx2''⟩ := (hm.el H).get hil
        rw [hx1] at hx1''
        injection hx1'' with q
        rw [q]; exact hx2''
      · rw [← List.append_assoc]
        exact s2.beside hn3 fun j hj q => o3 j hj (fun w => by
          have := hv1 j w
          exact q.elim this.2.2.1 this.2.2.2)
      · rcases i3 with q | ⟨q, q2⟩
        · rw [q] at hj
          have := hv1 j hj
          exact ⟨this.1, by omega, this.2.2⟩
        · rw [q] at hj; injection hj with hj
          exact ⟨by omega, by omega, fun w => by have := (s1.d j w).1; omega, fun w => by have := (s1.m j w).1; omega⟩
theorem top_app {base : List (List UInt8)} {x : List UInt8} : topL (base ++ [x]) 0 = x := by unfold topL; simp
theorem pop_app {base : List (List UInt8)} {x : List UInt8} : popL (base ++ [x]) = base := by unfold popL; simp
theorem tE_app {base : List (List UInt8)} {x : List UInt8} : topE (base ++ [x]) 0 = 0 := topE0 (by simp)
set_option maxHeartbeats 8000000 in
theorem loop13b (Q : Post0) (ks : List Kf) (p n0 : Nat) (v w : AVal) (ls ps : List (List UInt8)) (x50 x51 : AVal) (hls : ls.length ≤ 50) (hps : ps.length ≤ 20) (hlo : ∀ l ∈ ls, l.length ≤ 520) (hpo : ∀ l ∈ ps, l.length ≤ 520)
    (hq : ∀ (h : Hp) n v8 zs (x9 x11 x12 x13 x14 x35 x43 x52 x60 x73 x108 : AVal), Two h n n0 p v8 zs ls ps → n0 ≤ n → Free h n → Kont env 13 none Q ks (.exit 2) (v :: w :: AVal.junk :: AVal.junk :: .bool false :: .bool true :: .ptr p 0 :: .int .i64 0 :: v8 :: x9 :: .int .i64 (-1) :: x11 :: x12 :: x13 :: x14 :: AVal.junk :: AVal.junk :: AVal.junk :: AVal.junk :: AVal.junk :: AVal.junk :: AVal.junk :: AVal.junk :: AVal.junk :: AVal.junk :: AVal.junk :: AVal.junk :: AVal.junk :: AVal.junk :: AVal.junk :: AVal.junk :: AVal.junk :: AVal.junk :: AVal.junk :: AVal.junk :: x35 :: AVal.junk :: AVal.junk :: AVal.junk :: AVal.junk :: AVal.junk :: AVal.junk :: AVal.junk :: x43 :: AVal.junk :: AVal.junk :: AVal.junk :: AVal.junk :: AVal.junk :: AVal.junk :: x50 :: x51 :: x52 :: AVal.junk :: AVal.junk :: AVal.junk :: AVal.junk :: AVal.junk :: AVal.junk :: AVal.junk :: x60 :: AVal.junk :: AVal.junk :: AVal.junk :: AVal.junk :: AVal.junk :: AVal.junk :: AVal.junk :: AVal.junk :: AVal.junk :: AVal.junk :: AVal.junk :: AVal.junk :: x73 :: AVal.junk :: AVal.junk :: AVal.junk :: AVal.junk :: AVal.junk :: AVal.junk :: AVal.junk :: AVal.junk :: AVal.junk :: AVal.junk :: AVal.junk :: AVal.junk :: AVal.junk :: AVal.junk :: AVal.junk :: AVal.junk :: AVal.junk :: AVal.junk :: AVal.junk :: AVal.junk :: AVal.junk :: AVal.junk :: AVal.junk :: AVal.junk :: AVal.junk :: AVal.junk :: AVal.junk :: AVal.junk :: AVal.junk :: AVal.junk :: AVal.junk :: AVal.junk :: AVal.junk :: AVal.junk :: x108 :: AVal.junk :: AVal.junk :: AVal.junk :: AVal.junk :: AVal.junk :: AVal.junk :: AVal.junk :: []) h n) :
    ∀ (m : Nat) (h : Hp) (n : Nat) (v8 : AVal) (zs : List AVal) (x9 x11 x12 x13 x14 x35 x43 x52 x60 x73 x108 : AVal), m ≤ ps.length → Lst h 22 1 v8 ps.length zs → (∀ h, Els h (fun _ => False) zs ps) → (∃ D M, Stk h n D M p (ls ++ ps.take m) [] ∧ (∀ j, D j → n0 ≤ j) ∧ (∀ j, M j → n0 ≤ j) ∧ ∀ j, ownId v8 = some j → n0 ≤ j ∧ j < n ∧ ¬ D j ∧ ¬ M j) → n0 ≤ n → Free h n →
    Run env 13 none Q (.loop lp13_1) ks (v :: w :: AVal.junk :: AVal.junk :: .bool false :: .bool true :: .ptr p 0 :: .int .i64 0 :: v8 :: x9 :: .int .i64 ((m : Nat) - 1 : Int) :: x11 :: x12 :: x13 :: x14 :: AVal.junk :: AVal.junk :: AVal.junk :: AVal.junk :: AVal.junk :: AVal.junk :: AVal.junk :: AVal.junk :: AVal.junk :: AVal.junk :: AVal.junk :: AVal.junk :: AVal.junk :: AVal.junk :: AVal.junk :: AVal.junk :: AVal.junk :: AVal.junk :: AVal.junk :: AVal.junk :: x35 :: AVal.junk :: AVal.junk :: AVal.junk :: AVal.junk :: AVal.junk :: AVal.junk :: AVal.junk :: x43 :: AVal.junk :: AVal.junk :: AVal.junk :: AVal.junk :: AVal.junk :: AVal.junk :: x50 :: x51 :: x52 :: AVal.junk :: AVal.junk :: AVal.junk :: AVal.junk :: AVal.junk :: AVal.junk :: AVal.junk :: x60 :: AVal.junk :: AVal.junk :: AVal.junk :: AVal.junk :: AVal.junk :: AVal.junk :: AVal.junk :: AVal.junk :: AVal.junk :: AVal.junk :: AVal.junk :: AVal.junk :: x73 :: AVal.junk :: AVal.junk :: AVal.junk :: AVal.junk :: AVal.junk :: AVal.junk :: AVal.junk :: AVal.junk :: AVal.junk :: AVal.junk :: AVal.junk :: AVal.junk :: AVal.junk :: AVal.junk :: AVal.junk :: AVal.junk :: AVal.junk :: AVal.junk :: AVal.junk :: AVal.junk :: AVal.junk :: AVal.junk :: AVal.junk :: AVal.junk :: AVal.junk :: AVal.junk :: AVal.junk :: AVal.junk :: AVal.junk :: AVal.junk :: AVal.junk :: AVal.junk :: AVal.junk :: AVal.junk :: x108 :: AVal.junk :: AVal.junk :: AVal.junk :: AVal.junk :: AVal.junk :: AVal.junk :: AVal.junk :: []) h n := by
  intro m
  induction m with
  | zero =>
    intro h n v8 zs x9 x11 x12 x13 x14 x35 x43 x52 x60 x73 x108 hmp l8 e8 hst hn hf
    have hc : ¬ (0 : Int) ≤ ((0 : Nat) : Int) - 1 := by omega
    have e1 : ((0 : Nat) : Int) - 1 = -1 := by omega
    rw [run_loop]
    simp only [lp13_1, loopsOf, Try.f13, Option.getD_some, core1, fgr, execOp, opd, ofValue, putT, put, nth, forgetL, bor, binInt, shiftB, intOp, List.append_eq, List.cons_append, List.nil_append, List.append_nil, Int.cast_ofNat_Int, Int.reduceLE, Int.reduceSub, Int.reduceNeg, ge_iff_le, decide_true, decide_false, List.getD_cons_zero, List.getD_cons_succ]
    rw [List.take_zero, List.append_nil] at hst
    exact hq h n v8 zs _ _ _ _ _ _ _ _ _ _ _ ⟨l8, e8, hst⟩ hn hf
  | succ m ih =>
    intro h n v8 zs x9 x11 x12 x13 x14 x35 x43 x52 x60 x73 x108 hmp l8 e8 hst hn hf
    obtain ⟨D, M, s, hd, hmm, hv⟩ := hst
    have hml : m < ps.length := by omega
    have e1 : ((m + 1 : Nat) : Int) - 1 = ((m : Nat) : Int) := by omega
    have hc : (0 : Int) ≤ ((m : Nat) : Int) := by omega
    have hwr : IntKind.i64.wrap (((m : Nat) : Int) - 1) = ((m : Nat) : Int) - 1 := w64 (by omega) (by omega)
    have hsplit : ls ++ ps.take (m + 1) = (ls ++ ps.take m) ++ [ps[m]] := by rw [List.take_add_one, List.getElem?_eq_getElem hml, Option.toList_some, List.append_assoc]
    rw [hsplit] at s
    have hlen : ((ls ++ ps.take m) ++ [ps[m]]).length ≤ 100 := by simp only [List.length_append, List.length_take, List.length_singleton]; omega
    have hall : ∀ l ∈ ((ls ++ ps.take m) ++ [ps[m]]), l.length ≤ 1000000 := by
      rw [← hsplit]
      intro l hl
      rcases List.mem_append.1 hl with q | q
      · have := hlo l q; omega
      · have := hpo l (List.mem_of_mem_take q); omega
    rw [run_loop]
    simp only [lp13_1, loopsOf, Try.f13, Option.getD_some, core1, fgr, hkr, execOp, opd, opds, ofValue, putT, put, nth, forgetL, doCall, callV_func, bor, binInt, shiftB, intOp, List.append_eq, List.cons_append, List.nil_append, List.append_nil, ge_iff_le, decide_true, List.getD_cons_zero, List.getD_cons_succ, e1, hc]
    refine opv_callf hf (f43 p 0 _ [] D M h n s (by omega) hall hf) fun v1 h1 n1 hn1 f1 ⟨t1, e2, b1, i1, o1⟩ => ?_
    subst e2
    rw [tE_app, top_app] at *
    have s1 := s.old hn1 o1
    simp only [core1, fgr, hkr, execOp, opd, opds, putT, put, nth, forgetL, doCall, callV_func, extract, getO, List.getElem?_cons_succ, List.getElem?_cons_zero, List.nil_append, List.append_nil]
    refine opv_callf f1 (f46 p _ [] D M h1 n1 s1 (by omega) hall f1) fun v2 h2 n2 hn2 f2 ⟨⟨t2, e3, b2, i2⟩, s2, c2⟩ => ?_
    subst e3
    rw [tE_app, top_app, pop_app] at *
    have b12 : Bytes h2 t1 ps[m] := b1.keep fun j hj => c2.old j (i1 j hj).2 (fun q => by have := (s.m j q).1; have := (i1 j hj).1; omega)
    have l82 : Lst h2 22 1 v8 ps.length zs := l8.keep fun j hj => by
      rw [c2.old j (by have := (hv j hj).2.1; omega) (hv j hj).2.2.2, o1 j (hv j hj).2.1]
    obtain ⟨x, hx1, hx2⟩ := (e8 h2).get hml
    have u53' := u53
    simp only [core1, fgr, execOp, opd, putT, put, nth, forgetL, extract, getO, List.getElem?_cons_succ, List.getElem?_cons_zero]
    refine run_draw.2 ⟨rfl, ?_⟩
    simp only [fe_cons, fe_guard, fego_some, feg_bool, feg_ff, fev_ask, fev_pure, execOp, opd, ofValue, putT, put, nth, bor, binInt, shiftB, intOp, doPick, branch, List.getElem?_cons_succ, List.getElem?_cons_zero, Nat.reduceAdd, decide_true, Nat.zero_add, bne_self_eq_false]
    rw [fev_rd (b12.str_rd t22 t9 t5)]
    simp only [fe_guard, fego_some, feg_bool, feg_ff, fev_pure, execOp, opd, putT, put, nth, List.getElem?_cons_succ, List.getElem?_cons_zero, Nat.reduceAdd]
    rw [fev_rd (b2.str_rd t22 t9 t5)]
    simp only [fe_cons, fe_guard, fego_some, feg_bool, feg_ff, fev_ask, fev_pure, execOp, opd, ofValue, putT, put, nth, bor, strOp, strK, doPick, branch, List.getElem?_cons_succ, List.getElem?_cons_zero, Nat.reduceAdd, Bool.not_true, beq_self_eq_true]
    rw [fev_rd (b2.str_rd t22 t9 t5)]
    simp only [fe_guard, fego_some, feg_bool, feg_ff, fev_pure, execOp, opd, putT, put, nth, List.getElem?_cons_succ, List.getElem?_cons_zero, Nat.reduceAdd]
    rw [fev_rd (l82.rds.idx (j := m) u53 s22 rfl hml)]
    simp only [fe_guard, fego_some, feg_bool, feg_ff, execOp, opd, putT, put, nth, List.getElem?_cons_succ, List.getElem?_cons_zero, Nat.reduceAdd, Nat.mul_one]
    rw [fev_rd (l82.rds.load (k := m) ti22 rfl hx1)]
    simp only [fe_guard, fego_some, feg_bool, feg_ff, execOp, opd, putT, put, nth, List.getElem?_cons_succ, List.getElem?_cons_zero, Nat.reduceAdd]
    rw [fev_rd (hx2.1.str_rd t22 t9 t5)]
    simp only [fe_nil, fe_cons, fe_guard, fego_some, feg_bool, feg_ff, fev_ask, fev_pure, core1, fgr, execOp, opd, ofValue, putT, put, nth, forgetL, bor, binInt, shiftB, intOp, wrapI, strOp, strK, doPick, branch, List.getElem?_cons_succ, List.getElem?_cons_zero, Nat.reduceAdd, decide_true, Bool.not_true, beq_self_eq_true]
    refine ⟨(by (try simp (disch := first | assumption | omega) only [fine, List.all_cons, List.all_nil, clash_pr, clash_rr, Bool.not_false, Bool.true_or, Bool.and_true]); repeat' (first | rfl | exact (Bool.or_eq_true _ _).mpr (.inr rfl) | refine (Bool.and_eq_true _ _).mpr ⟨?_, ?_⟩)), ?_⟩
    simp only [hwr]
    exact ih h2 n2 v8 zs _ _ _ _ _ _ _ _ _ _ _ (by omega) l82 e8 ⟨D, M, s2, hd, hmm, fun j hj => ⟨(hv j hj).1, by have := (hv j hj).2.1; omega, (hv j hj).2.2⟩⟩ (by omega) f2
/- What was pushed is popped: the statement. -/
theorem new120 {ls : List (List UInt8)} (h : newE ls ≠ 0) (hl : ls.length ≤ 100) : newE ls = 120 := by
  unfold newE at h ⊢
  by_cases q : ls.any longB = true
  · rw [if_pos q]
  · rw [if_neg q, if_neg (by omega)] at h; exact absurd rfl h
theorem great_ok {ls : List (List UInt8)} (h : greatV ls = false) : (∀ l ∈ ls, l.length ≤ 600) ∧ ls.length ≤ 150 := by
  unfold greatV at h
  have := Bool.or_eq_false_iff.1 h
  exact ⟨over_false this.1, by have := of_decide_eq_false this.2; omega⟩
set_option maxHeartbeats 8000000 in
theorem law13 (v : AVal) (hv : Arg Try.prog 53 [v]) (w : AVal) (hw : Arg Try.prog 53 [w]) : Wp (callI env (evalW env) 13 [v, w]) (fun _ => none) 0 fun v' _ _ => v' = .bool true := by
  obtain ⟨ls, xs, hl⟩ := argL hv
  obtain ⟨ms, ys, hm⟩ := argL hw
  refine wp_callI ff13 fi13 ?_
  have f0 : Free (fun _ => none) 0 := Free.none
  generalize (fun _ => none : Hp) = h0 at *
  have hml := hl.len
  have hmm := hm.len
  have hmx : maxLen = 9223372036854775807 := by decide
  simp only [fu13, Try.f13, Option.getD_some, List.replicate, core1, fgr, hkr, execOp, opd, opds, ofValue, putT, put, forgetL, doCall, callV_func, ended, resultOf, oneOrTup, List.append_eq, List.cons_append, List.nil_append, List.append_nil, List.length_cons, List.length_nil, Nat.reduceAdd, Nat.reduceSub, Nat.zero_add, wp_pure]
  refine opv_callf f0 (f35 h0 0 f0) fun v1 h1 n1 hn1 f1 ⟨e1, o1⟩ => ?_
  subst e1
  by_cases hg1 : 50 < ls.length
  · have hc : 50 < ((ls.length : Nat) : Int) := by omega
    simp only [core1, fgr, execOp, opd, opds, ofValue, putT, put, nth, forgetL, doCall, builtin, one1, bor, binInt, shiftB, intOp, doPick, branch, List.getElem?_cons_succ, List.getElem?_cons_zero, gt_iff_lt, decide_true, and_self, (hl.rd h1).bLen u53, hc]
  have hc : ¬ 50 < ((ls.length : Nat) : Int) := by omega
  by_cases hg2 : 20 < ms.length
  · have hc2 : 20 < ((ms.length : Nat) : Int) := by omega
    simp only [core1, fgr, execOp, opd, opds, ofValue, putT, put, nth, forgetL, doCall, builtin, one1, bor, binInt, shiftB, intOp, doPick, branch, List.getElem?_cons_succ, List.getElem?_cons_zero, gt_iff_lt, decide_true, decide_false, and_self, (hl.rd h1).bLen u53, (hm.rd h1).bLen u53, hc, hc2]
  have hc2 : ¬ 20 < ((ms.length : Nat) : Int) := by omega
  simp only [core1, fgr, hkr, execOp, opd, opds, ofValue, putT, put, nth, forgetL, doCall, callV_func, builtin, one1, bor, binInt, shiftB, intOp, doPick, branch, List.getElem?_cons_succ, List.getElem?_cons_zero, List.nil_append, List.append_nil, gt_iff_lt, decide_true, decide_false, (hl.rd h1).bLen u53, (hm.rd h1).bLen u53, hc, hc2]
  refine opv_same (f36 v xs ls (fun _ => False) h1 n1 (by omega) (hl.rd h1) (hl.el h1)) ?_
  cases hg : greatV ls with
  | true => simp only [core1, fgr, execOp, opd, ofValue, putT, put, nth, forgetL, doPick, branch, List.getElem?_cons_succ, List.getElem?_cons_zero, and_self]
  | false =>
  simp only [core1, hkr, execOp, opd, opds, ofValue, putT, put, nth, doCall, callV_func, doPick, branch, List.getElem?_cons_succ, List.getElem?_cons_zero, List.nil_append, List.append_nil]
  refine opv_same (f36 w ys ms (fun _ => False) h1 n1 (by omega) (hm.rd h1) (hm.el h1)) ?_
  cases hgm : greatV ms with
  | true => simp only [core1, fgr, execOp, opd, ofValue, putT, put, nth, forgetL, doPick, branch, List.getElem?_cons_succ, List.getElem?_cons_zero, and_self]
  | false =>
  simp only [core1, fgr, hkr, execOp, opd, opds, ofValue, putT, put, nth, forgetL, doCall, callV_func, unOp, doPick, branch, List.getElem?_cons_succ, List.getElem?_cons_zero, List.nil_append, List.append_nil, Bool.not_true]
  have hov := (great_ok hg).1
  refine opv_callf f1 (f37 v xs ls (fun _ => False) h1 n1 (by omega) (hl.rd h1) (fun j hj => by rw [hl.id] at hj; cases hj) (hl.el h1) (fun j hj => hj.elim) f1) fun v3 h3 n3 hn3 f3 ⟨o3, hh⟩ => ?_
  rcases hh with ⟨hne, e3⟩ | ⟨hne, p, e3, st⟩
  · subst e3
    have he := new120 hne (by omega)
    simp only [core1, fgr, execOp, opd, ofValue, putT, put, nth, forgetL, bor, binInt, shiftB, intOp, doPick, branch, extract, getO, List.getElem?_cons_succ, List.getElem?_cons_zero, int_bne, Int.reduceEq, not_false_eq_true, decide_true, and_self, beq_self_eq_true, he]
  subst e3
  have ok0 := new_ok hne
  simp only [core1, fgr, execOp, opd, opds, ofValue, putT, put, nth, forgetL, doCall, builtin, one1, bor, binInt, shiftB, intOp, extract, getO, List.getElem?_cons_succ, List.getElem?_cons_zero, decide_true, bne_self_eq_false, (hm.rd h3).bLen u53]
  obtain ⟨D, M, s, hd, hmj⟩ := st
  refine loop13a _ _ p n1 v w ys ls ms hm (by omega) (by omega) ?_ ms.length 0 h3 n3 .nils [] _ _ _ _ _ _ _ _ _ _ _ _ (by omega) ⟨.nil, fun H => Els.nil _ _, D, M, (by simpa [went] using s), hd, hmj, fun j hj => (by cases hj)⟩ hn3 f3
  intro h4 n4 v8 zs x9 x10 x11 x12 x13 x14 x35 x43 x52 x60 x73 x108 ht hn4 f4
  obtain ⟨l8, e8, hst⟩ := ht
  have hwl := went_len ms
  have w1 : IntKind.i64.wrap ((((went ms).length : Nat) : Int) - 1) = (((went ms).length : Nat) : Int) - 1 := w64 (by omega) (by omega)
  simp only [core1, fgr, execOp, opd, opds, ofValue, putT, put, nth, forgetL, doCall, builtin, one1, bor, binInt, shiftB, intOp, wrapI, decide_true, l8.rds.bLen u53, w1]
  refine loop13b _ _ p n1 v w ls (went ms) _ _ (by omega) (by omega) ok0.l went_ok ?_ (went ms).length h4 n4 v8 zs _ _ _ _ _ _ _ _ _ _ _ (Nat.le_refl _) l8 e8 (by rw [List.take_length]; exact hst) hn4 f4
  intro h5 n5 v8 zs x9 x11 x12 x13 x14 x35 x43 x52 x60 x73 x108 ht hn5 f5
  obtain ⟨l8, e8, D5, M5, s5, _, _, _⟩ := ht
  simp only [core1, hkr, execOp, opd, opds, putT, put, nth, doCall, callV_func, List.getElem?_cons_succ, List.getElem?_cons_zero, List.nil_append, List.append_nil, Int.reduceNeg]
  refine opv_callf f5 (f40 p ls [] D5 M5 h5 n5 s5 (by omega) (fun l hl => by have := ok0.l l hl; omega) f5) fun v6 h6 n6 hn6 f6 ⟨us, D6, l6, el6, _, _, _, o6⟩ => ?_
  simp only [core1, hkr, execOp, opd, opds, putT, put, nth, doCall, callV_func, List.getElem?_cons_succ, List.getElem?_cons_zero, List.nil_append, List.append_nil, Int.reduceNeg]
  refine opv_same (f39 v6 v us xs ls ls D6 (fun _ => False) h6 n6 (by omega) l6.rds (hl.rd h6) el6 (hl.el h6) (fun l hl => by have := ok0.l l hl; omega) (fun l hl => by have := ok0.l l hl; omega) f6) ?_
  simp only [core1, fgr, execOp, opd, ofValue, putT, put, nth, forgetL, doPick, branch, Int.reduceNeg, decide_true, and_self]
end Go.Am.Ytmoplhbncjicbaa
