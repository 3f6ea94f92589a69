/- The functions that the statement reaches, gone through. -/
import Derived.Test.YtmoplhbncjicbaaSkUnD
set_option linter.unusedSimpArgs false
set_option linter.unusedVariables false
set_option linter.defProp false
set_option maxRecDepth 10000
namespace Go.Am.Ytmoplhbncjicbaa
open Go Go.Am Go.Proofs
set_option maxHeartbeats 4000000 in
theorem loop36 (Q : Post0) (ks : List Kf) (v w : AVal) (xs : List AVal) (ls : List (List UInt8)) (D : Nat → Prop) (h : Hp) (n : Nat) (hlen : ls.length ≤ 9223372036854775807) (hv : Rds h 1 v ls.length xs) (hel : Els h D xs ls)
    (hq : ∀ (x5 x6 x10 x17 x20 x21 x22 x30 : AVal), ls.any overB = false → Kont env 36 none Q ks (.exit 0) (v :: w :: AVal.junk :: AVal.junk :: .bool false :: x5 :: x6 :: AVal.junk :: .int .i64 (ls.length : Nat) :: .int .i64 (ls.length : Nat) :: x10 :: AVal.junk :: AVal.junk :: AVal.junk :: AVal.junk :: AVal.junk :: AVal.junk :: x17 :: AVal.junk :: AVal.junk :: x20 :: x21 :: x22 :: AVal.junk :: AVal.junk :: AVal.junk :: AVal.junk :: AVal.junk :: AVal.junk :: AVal.junk :: x30 :: AVal.junk :: AVal.junk :: AVal.junk :: AVal.junk :: AVal.junk :: AVal.junk :: AVal.junk :: AVal.junk :: AVal.junk :: []) h n)
    (hr : ∀ (x5 x6 x10 x17 x20 x21 x22 x30 : AVal) (z : AVal), ls.any overB = true → Kont env 36 none Q ks .ret (v :: w :: AVal.junk :: AVal.junk :: .bool true :: x5 :: x6 :: AVal.junk :: .int .i64 (ls.length : Nat) :: z :: x10 :: AVal.junk :: AVal.junk :: AVal.junk :: AVal.junk :: AVal.junk :: AVal.junk :: x17 :: AVal.junk :: AVal.junk :: x20 :: x21 :: x22 :: AVal.junk :: AVal.junk :: AVal.junk :: AVal.junk :: AVal.junk :: AVal.junk :: AVal.junk :: x30 :: AVal.junk :: AVal.junk :: AVal.junk :: AVal.junk :: AVal.junk :: AVal.junk :: AVal.junk :: AVal.junk :: AVal.junk :: []) h n) :
    ∀ (m i : Nat) (x5 x6 x10 x17 x20 x21 x22 x30 : AVal), i + m = ls.length → (ls.take i).any overB = false →
    Run env 36 none Q (.loop lp36_0) ks (v :: w :: AVal.junk :: AVal.junk :: .bool false :: x5 :: x6 :: AVal.junk :: .int .i64 (ls.length : Nat) :: .int .i64 (i : Nat) :: x10 :: AVal.junk :: AVal.junk :: AVal.junk :: AVal.junk :: AVal.junk :: AVal.junk :: x17 :: AVal.junk :: AVal.junk :: x20 :: x21 :: x22 :: AVal.junk :: AVal.junk :: AVal.junk :: AVal.junk :: AVal.junk :: AVal.junk :: AVal.junk :: x30 :: AVal.junk :: AVal.junk :: AVal.junk :: AVal.junk :: AVal.junk :: AVal.junk :: AVal.junk :: AVal.junk :: AVal.junk :: []) h n := by
  intro m
  induction m with
  | zero =>
    intro i x5 x6 x10 x17 x20 x21 x22 x30 hi hs
    have : i = ls.length := by omega
    subst this
    have hc : ¬ ((ls.length : Nat) : Int) < ((ls.length : Nat) : Int) := by omega
    rw [run_loop]
    simp only [lp36_0, loopsOf, Try.f36, Option.getD_some, core1, fgr, execOp, opd, putT, put, nth, forgetL, bor, binInt, shiftB, intOp, List.cons_append, List.nil_append, List.append_nil, decide_true, decide_false, List.getD_cons_zero, hc]
    rw [List.take_length] at hs
    exact hq _ _ _ _ _ _ _ _ hs
  | succ m ih =>
    intro i x5 x6 x10 x17 x20 x21 x22 x30 hi hs
    have hil : i < ls.length := by omega
    have hc : ((i : Nat) : Int) < ((ls.length : Nat) : Int) := by omega
    have hwr : IntKind.i64.wrap (((i : Nat) : Int) + 1) = ((i + 1 : Nat) : Int) := by rw [w64 (by omega) (by omega)]; omega
    obtain ⟨x, hx1, hx2⟩ := hel.get hil
    rw [run_loop]
    simp only [lp36_0, loopsOf, Try.f36, Option.getD_some, core1, fgr, execOp, opd, putT, put, nth, forgetL, bor, binInt, shiftB, intOp, List.cons_append, List.nil_append, List.append_nil, decide_true, List.getD_cons_zero, hc]
    rw [opv_rd (hv.idx (j := i) u53 s22 rfl hil)]
    simp only [core1, execOp, opd, putT, put, nth, Nat.mul_one]
    rw [opv_rd (hv.load (k := i) ti22 rfl hx1)]
    by_cases hov : 600 < ls[i].length
    · have hc2 : 600 < ((ls[i].length : Nat) : Int) := by omega
      simp only [core1, fgr, execOp, opd, opds, ofValue, putT, put, nth, forgetL, doCall, builtin, one1, bor, binInt, shiftB, intOp, gt_iff_lt, decide_true, hx2.1.bLen t22, hc2]
      exact hr _ _ _ _ _ _ _ _ _ (List.any_eq_true.2 ⟨_, List.getElem_mem hil, decide_eq_true hov⟩)
    · have hc2 : ¬ 600 < ((ls[i].length : Nat) : Int) := by omega
      simp only [core1, fgr, execOp, opd, opds, ofValue, putT, put, nth, forgetL, doCall, builtin, one1, bor, binInt, shiftB, intOp, wrapI, gt_iff_lt, decide_true, decide_false, hx2.1.bLen t22, hc2, hwr]
      refine ih (i + 1) _ _ _ _ _ _ _ _ (by omega) ?_
      rw [List.take_add_one, List.getElem?_eq_getElem hil, Option.toList_some, List.any_append, hs]
      simp [overB, hov]
theorem f36 (v : AVal) (xs : List AVal) (ls : List (List UInt8)) (D : Nat → Prop) (h : Hp) (n : Nat) (hlen : ls.length ≤ 9223372036854775807) (hv : Rds h 1 v ls.length xs) (hel : Els h D xs ls) :
    Wp (callI env (evalW env) 36 [v, .nils]) h n fun v' h' n' => v' = .bool (greatV ls) ∧ h' = h ∧ n' = n := by
  refine wp_callI ff36 fi36 ?_
  simp only [fu36, Try.f36, Option.getD_some, List.replicate, core1, fgr, execOp, opd, opds, ofValue, putT, put, nth, forgetL, doCall, builtin, one1, ended, resultOf, oneOrTup, List.cons_append, List.nil_append, List.length_cons, List.length_nil, Nat.reduceAdd, Nat.reduceSub, Nat.zero_add, wp_pure, hv.bLen u53]
  refine loop36 _ _ v .nils xs ls D h n hlen hv hel ?_ ?_ ls.length 0 _ _ _ _ _ _ _ _ (by omega) rfl
  · intro x5 x6 x10 x17 x20 x21 x22 x30 ha
    simp only [core1, fgr, execOp, opd, opds, ofValue, putT, put, nth, forgetL, doCall, builtin, one1, blr]
    rw [run_loop]
    by_cases h150 : 150 < ls.length
    · have hc : 150 < ((ls.length : Nat) : Int) := by omega
      simp only [core1, fgr, execOp, opd, opds, ofValue, putT, put, nth, forgetL, doCall, builtin, one1, bor, binInt, shiftB, intOp, doPick, branch, List.getElem?_cons_succ, List.getElem?_cons_zero, Int.reduceLT, gt_iff_lt, decide_true, decide_false, Bool.or_true, and_self, hv.bLen u53, hc, greatV, ha, h150]
    · have hc : ¬ 150 < ((ls.length : Nat) : Int) := by omega
      simp only [core1, fgr, execOp, opd, opds, ofValue, putT, put, nth, forgetL, doCall, builtin, one1, blr, bor, binInt, shiftB, intOp, doPick, branch, List.getElem?_cons_succ, List.getElem?_cons_zero, Int.reduceLT, gt_iff_lt, decide_true, decide_false, Bool.or_false, and_self, hv.bLen u53, hc, greatV, ha, h150]
  · intro x5 x6 x10 x17 x20 x21 x22 x30 z ha
    simp only [core1, nth, Bool.true_or, and_self, greatV, ha]
/-- Both lists behind so many operations. -/
def path (cs : List UInt8) (ls : List (List UInt8)) : Nat → List (List UInt8) × List (List UInt8)
  | 0 => (ls, [])
  | i + 1 => (allL ((cs.getD i 0).toNat : Int) (path cs ls i).1 (path cs ls i).2, allO ((cs.getD i 0).toNat : Int) (path cs ls i).1 (path cs ls i).2)
def stepE (cs : List UInt8) (ls : List (List UInt8)) (i : Nat) : Int := allE ((cs.getD i 0).toNat : Int) (path cs ls i).1 (path cs ls i).2
theorem path_ok {cs : List UInt8} {ls : List (List UInt8)} (h : Ok ls []) : ∀ i, Ok (path cs ls i).1 (path cs ls i).2 := by
  intro i
  induction i with
  | zero => exact h
  | succ i ih => exact all_ok ih
/-- An operation that only moves the last elements. -/
theorem all_frm {c : Int} {k : Nat} {ix : List Nat} (hf : frm c = some (k, ix)) {base last os : List (List UInt8)} (hk : last.length = k) (hn : base.length + ix.length + os.length ≤ 100) :
    allE c (base ++ last) os = 0 ∧ allL c (base ++ last) os = base ++ pickL last ix ∧ allO c (base ++ last) os = os := by
  have hlv : leastV c = (k : Nat) := by unfold leastV; rw [hf]
  have hE : doE c (base ++ last) os = 0 := by unfold doE; rw [hf]
  have h1 : (base ++ last).length - k = base.length := by rw [List.length_append]; omega
  have hL : doL c (base ++ last) os = base ++ pickL last ix := by
    unfold doL
    rw [hf]
    simp only
    rw [h1, List.take_left, List.drop_left]
  have hO : doO c (base ++ last) os = os := by unfold doO; rw [hf]
  have he : allE c (base ++ last) os = 0 := by
    unfold allE
    rw [if_neg (by omega), if_neg (by rw [hlv, List.length_append]; omega), if_pos hE, hL, hO, if_pos]
    rw [List.length_append]
    unfold pickL
    rw [List.length_map]; omega
  exact ⟨he, by unfold allL; rw [if_pos he, hL], by unfold allO; rw [if_pos he, hO]⟩
theorem all_few {c : Int} {ls os : List (List UInt8)} (h0 : 0 ≤ leastV c) (h1 : (ls.length : Int) < leastV c) : allE c ls os = 120 ∧ allL c ls os = ls ∧ allO c ls os = os := by
  have he : allE c ls os = 120 := by unfold allE; rw [if_neg (by omega), if_pos h1]
  exact ⟨he, by unfold allL; rw [if_neg (by rw [he]; decide)], by unfold allO; rw [if_neg (by rw [he]; decide)]⟩
theorem split_last {ls : List (List UInt8)} {k : Nat} (h : k ≤ ls.length) : ∃ base last : List (List UInt8), ls = base ++ last ∧ last.length = k :=
  ⟨ls.take (ls.length - k), ls.drop (ls.length - k), (List.take_append_drop _ _).symm, by rw [List.length_drop]; omega⟩
/-- An operation that puts one more element on the top. -/
theorem all_more {c : Int} {ls os : List (List UInt8)} {x : List UInt8} (hf : frm c = none) (h0 : 0 ≤ leastV c) (h1 : leastV c ≤ (ls.length : Int)) (hE : doE c ls os = 0) (hL : doL c ls os = ls ++ [x]) (hO : doO c ls os = os) (hn : ls.length + 1 + os.length ≤ 100) :
    allE c ls os = 0 ∧ allL c ls os = ls ++ [x] ∧ allO c ls os = os := by
  have he : allE c ls os = 0 := by
    unfold allE
    rw [if_neg (by omega), if_neg (by omega), if_pos hE, hL, hO, if_pos]
    rw [List.length_append, List.length_singleton]; omega
  exact ⟨he, by unfold allL; rw [if_pos he, hL], by unfold allO; rw [if_pos he, hO]⟩
def ways : List (List UInt8) := [[107, 108], [124, 124], [123, 123, 123], [114, 114], [113, 113, 113], [118, 117], [125, 123, 117], [120, 117], [110, 109], [116, 117], [130, 117]]
def Undone (cs : List UInt8) (ls : List (List UInt8)) : Prop :=
  (stepE cs ls 0 = 120 ∧ path cs ls 1 = (ls, [])) ∨ ((∀ i, i < cs.length → stepE cs ls i = 0) ∧ path cs ls cs.length = (ls, []))
theorem und2 {a b : UInt8} {ls m : List (List UInt8)} {o : List (List UInt8)} (h1 : allE (a.toNat : Int) ls [] = 0 ∧ allL (a.toNat : Int) ls [] = m ∧ allO (a.toNat : Int) ls [] = o) (h2 : allE (b.toNat : Int) m o = 0 ∧ allL (b.toNat : Int) m o = ls ∧ allO (b.toNat : Int) m o = []) : Undone [a, b] ls := by
  refine .inr ⟨fun i hi => ?_, ?_⟩
  · match i, hi with
    | 0, _ => exact h1.1
    | 1, _ => show allE (b.toNat : Int) (allL (a.toNat : Int) ls []) (allO (a.toNat : Int) ls []) = 0
              rw [h1.2.1, h1.2.2]; exact h2.1
  · show (allL (b.toNat : Int) (allL (a.toNat : Int) ls []) (allO (a.toNat : Int) ls []), allO (b.toNat : Int) (allL (a.toNat : Int) ls []) (allO (a.toNat : Int) ls [])) = (ls, [])
    rw [h1.2.1, h1.2.2, h2.2.1, h2.2.2]
theorem und3 {a b c : UInt8} {ls m k : List (List UInt8)} (h1 : allE (a.toNat : Int) ls [] = 0 ∧ allL (a.toNat : Int) ls [] = m ∧ allO (a.toNat : Int) ls [] = []) (h2 : allE (b.toNat : Int) m [] = 0 ∧ allL (b.toNat : Int) m [] = k ∧ allO (b.toNat : Int) m [] = []) (h3 : allE (c.toNat : Int) k [] = 0 ∧ allL (c.toNat : Int) k [] = ls ∧ allO (c.toNat : Int) k [] = []) : Undone [a, b, c] ls := by
  refine .inr ⟨fun i hi => ?_, ?_⟩
  · match i, hi with
    | 0, _ => exact h1.1
    | 1, _ => show allE (b.toNat : Int) (allL (a.toNat : Int) ls []) (allO (a.toNat : Int) ls []) = 0
              rw [h1.2.1, h1.2.2]; exact h2.1
    | 2, _ => show allE (c.toNat : Int) (allL (b.toNat : Int) (allL (a.toNat : Int) ls []) (allO (a.toNat : Int) ls [])) (allO (b.toNat : Int) (allL (a.toNat : Int) ls []) (allO (a.toNat : Int) ls [])) = 0
              rw [h1.2.1, h1.2.2, h2.2.1, h2.2.2]; exact h3.1
  · show (allL (c.toNat : Int) (allL (b.toNat : Int) (allL (a.toNat : Int) ls []) (allO (a.toNat : Int) ls [])) (allO (b.toNat : Int) (allL (a.toNat : Int) ls []) (allO (a.toNat : Int) ls [])), allO (c.toNat : Int) (allL (b.toNat : Int) (allL (a.toNat : Int) ls []) (allO (a.toNat : Int) ls [])) (allO (b.toNat : Int) (allL (a.toNat : Int) ls []) (allO (a.toNat : Int) ls []))) = (ls, [])
    rw [h1.2.1, h1.2.2, h2.2.1, h2.2.2, h3.2.1, h3.2.2]
theorem few {cs : List UInt8} {ls : List (List UInt8)} (h0 : 0 ≤ leastV ((cs.getD 0 0).toNat : Int)) (h1 : (ls.length : Int) < leastV ((cs.getD 0 0).toNat : Int)) : Undone cs ls := by
  have := all_few (os := []) h0 h1
  refine .inl ⟨this.1, ?_⟩
  show (allL _ ls [], allO _ ls []) = (ls, [])
  rw [this.2.1, this.2.2]
theorem last1 {l : List (List UInt8)} (h : l.length = 1) : ∃ a, l = [a] := by
  match l, h with
  | [a], _ => exact ⟨a, rfl⟩
theorem last2 {l : List (List UInt8)} (h : l.length = 2) : ∃ a b, l = [a, b] := by
  match l, h with
  | [a, b], _ => exact ⟨a, b, rfl⟩
theorem last3 {l : List (List UInt8)} (h : l.length = 3) : ∃ a b c, l = [a, b, c] := by
  match l, h with
  | [a, b, c], _ => exact ⟨a, b, c, rfl⟩
theorem last4 {l : List (List UInt8)} (h : l.length = 4) : ∃ a b c d, l = [a, b, c, d] := by
  match l, h with
  | [a, b, c, d], _ => exact ⟨a, b, c, d, rfl⟩
theorem last6 {l : List (List UInt8)} (h : l.length = 6) : ∃ a b c d e f, l = [a, b, c, d, e, f] := by
  match l, h with
  | [a, b, c, d, e, f], _ => exact ⟨a, b, c, d, e, f, rfl⟩
theorem app2 (l : List (List UInt8)) (a b : List UInt8) : l ++ [a, b] = (l ++ [a]) ++ [b] := by simp
theorem app3 (l : List (List UInt8)) (a b c : List UInt8) : l ++ [a, b, c] = (l ++ [a, b]) ++ [c] := by simp
theorem app4 (l : List (List UInt8)) (a b c d : List UInt8) : l ++ [a, b, c, d] = (l ++ [a, b]) ++ [c, d] := by simp
theorem undone {cs : List UInt8} {ls : List (List UInt8)} (hc : cs ∈ ways) (hn : ls.length ≤ 60) : Undone cs ls := by
  simp only [ways, List.mem_cons, List.not_mem_nil, or_false] at hc
  rcases hc with rfl | rfl | rfl | rfl | rfl | rfl | rfl | rfl | rfl | rfl | rfl
  · -- to the other list, and back
    by_cases h : ls.length < 1
    · exact few (by decide) (by show _ < leastV 107; rw [lv107]; omega)
    obtain ⟨base, last, rfl, hl⟩ := split_last (ls := ls) (k := 1) (by omega)
    obtain ⟨a, rfl⟩ := last1 hl
    rw [List.length_append, List.length_singleton] at hn
    have htop : top (base ++ [a]) = a := by unfold top topL; simp
    have hpop : popL (base ++ [a]) = base := by unfold popL; simp
    have e1 : doE 107 (base ++ [a]) [] = 0 := rfl
    have l1 : doL 107 (base ++ [a]) [] = base := hpop
    have o1 : doO 107 (base ++ [a]) [] = [a] := by show [] ++ [top (base ++ [a])] = [a]; rw [htop]; rfl
    have a1 : allE 107 (base ++ [a]) [] = 0 := by
      unfold allE
      rw [lv107, if_neg (by decide), if_neg (by simp; omega), if_pos e1, l1, o1, if_pos (by simp; omega)]
    have e2 : doE 108 base [a] = 0 := rfl
    have l2 : doL 108 base [a] = base ++ [a] := rfl
    have o2 : doO 108 base [a] = [] := rfl
    have a2 : allE 108 base [a] = 0 := by
      unfold allE
      rw [lv108, if_neg (by decide), if_neg (by omega), if_pos e2, l2, o2, if_pos (by simp; omega)]
    refine und2 (m := base) (o := [a]) ⟨a1, ?_, ?_⟩ ⟨a2, ?_, ?_⟩
    · show allL 107 _ _ = _; unfold allL; rw [if_pos a1, l1]
    · show allO 107 _ _ = _; unfold allO; rw [if_pos a1, o1]
    · show allL 108 _ _ = _; unfold allL; rw [if_pos a2, l2]
    · show allO 108 _ _ = _; unfold allO; rw [if_pos a2, o2]
  · by_cases h : ls.length < 2
    · exact few (by decide) (by show _ < leastV 124; rw [lv124]; omega)
    obtain ⟨base, last, rfl, hl⟩ := split_last (ls := ls) (k := 2) (by omega)
    obtain ⟨a, b, rfl⟩ := last2 hl
    simp only [List.length_append, List.length_cons, List.length_nil] at hn
    exact und2 (all_frm fr124 rfl (by simp; omega)) (all_frm fr124 rfl (by simp; omega))
  · by_cases h : ls.length < 3
    · exact few (by decide) (by show _ < leastV 123; rw [lv123]; omega)
    obtain ⟨base, last, rfl, hl⟩ := split_last (ls := ls) (k := 3) (by omega)
    obtain ⟨a, b, c, rfl⟩ := last3 hl
    simp only [List.length_append, List.length_cons, List.length_nil] at hn
    exact und3 (all_frm fr123 rfl (by simp; omega)) (all_frm fr123 rfl (by simp; omega)) (all_frm fr123 rfl (by simp; omega))
  · by_cases h : ls.length < 4
    · exact few (by decide) (by show _ < leastV 114; rw [lv114]; omega)
    obtain ⟨base, last, rfl, hl⟩ := split_last (ls := ls) (k := 4) (by omega)
    obtain ⟨a, b, c, d, rfl⟩ := last4 hl
    simp only [List.length_append, List.length_cons, List.length_nil] at hn
    exact und2 (all_frm fr114 rfl (by simp; omega)) (all_frm fr114 rfl (by simp; omega))
  · by_cases h : ls.length < 6
    · exact few (by decide) (by show _ < leastV 113; rw [lv113]; omega)
    obtain ⟨base, last, rfl, hl⟩ := split_last (ls := ls) (k := 6) (by omega)
    obtain ⟨a, b, c, d, e, f, rfl⟩ := last6 hl
    simp only [List.length_append, List.length_cons, List.length_nil] at hn
    exact und3 (all_frm fr113 rfl (by simp; omega)) (all_frm fr113 rfl (by simp; omega)) (all_frm fr113 rfl (by simp; omega))
  · by_cases h : ls.length < 1
    · exact few (by decide) (by show _ < leastV 118; rw [lv118]; omega)
    obtain ⟨base, last, rfl, hl⟩ := split_last (ls := ls) (k := 1) (by omega)
    obtain ⟨a, rfl⟩ := last1 hl
    simp only [List.length_append, List.length_cons, List.length_nil] at hn
    have h2 := all_frm (c := 117) fr117 (base := base ++ [a]) (last := [a]) (os := []) rfl (by simp; omega)
    rw [← app2] at h2
    exact und2 (all_frm fr118 rfl (by simp; omega)) ⟨h2.1, by rw [show ((117 : UInt8).toNat : Int) = 117 from rfl]; exact h2.2.1.trans (by unfold pickL; simp), h2.2.2⟩
  · by_cases h : ls.length < 2
    · exact few (by decide) (by show _ < leastV 125; rw [lv125]; omega)
    obtain ⟨base, last, rfl, hl⟩ := split_last (ls := ls) (k := 2) (by omega)
    obtain ⟨a, b, rfl⟩ := last2 hl
    simp only [List.length_append, List.length_cons, List.length_nil] at hn
    have h2 := all_frm (c := 117) fr117 (base := base ++ [a, b]) (last := [b]) (os := []) rfl (by simp; omega)
    rw [← app3] at h2
    exact und3 (all_frm fr125 rfl (by simp; omega)) (all_frm fr123 rfl (by simp; omega)) ⟨h2.1, h2.2.1.trans (by unfold pickL; simp), h2.2.2⟩
  · by_cases h : ls.length < 2
    · exact few (by decide) (by show _ < leastV 120; rw [lv120]; omega)
    obtain ⟨base, last, rfl, hl⟩ := split_last (ls := ls) (k := 2) (by omega)
    obtain ⟨a, b, rfl⟩ := last2 hl
    simp only [List.length_append, List.length_cons, List.length_nil] at hn
    have h2 := all_frm (c := 117) fr117 (base := base ++ [a, b]) (last := [a]) (os := []) rfl (by simp; omega)
    rw [← app3] at h2
    exact und2 (all_frm fr120 rfl (by simp; omega)) ⟨h2.1, h2.2.1.trans (by unfold pickL; simp), h2.2.2⟩
  · by_cases h : ls.length < 2
    · exact few (by decide) (by show _ < leastV 110; rw [lv110]; omega)
    obtain ⟨base, last, rfl, hl⟩ := split_last (ls := ls) (k := 2) (by omega)
    obtain ⟨a, b, rfl⟩ := last2 hl
    simp only [List.length_append, List.length_cons, List.length_nil] at hn
    have h2 := all_frm (c := 109) fr109 (base := base ++ [a, b]) (last := [a, b]) (os := []) rfl (by simp; omega)
    rw [← app4] at h2
    exact und2 (all_frm fr110 rfl (by simp; omega)) ⟨h2.1, h2.2.1.trans (by unfold pickL; simp), h2.2.2⟩
  · have h2 := all_frm (c := 117) fr117 (base := ls) (last := [encL (ls.length : Nat)]) (os := []) rfl (by simp; omega)
    exact und2 (all_more fr116 (by decide) (by show leastV 116 ≤ _; rw [lv116]; omega) rfl rfl rfl (by simp; omega)) ⟨h2.1, h2.2.1.trans (by unfold pickL; simp), h2.2.2⟩
  · by_cases h : ls.length < 1
    · exact few (by decide) (by show _ < leastV 130; rw [lv130]; omega)
    have h2 := all_frm (c := 117) fr117 (base := ls) (last := [encL ((top ls).length : Nat)]) (os := []) rfl (by simp; omega)
    exact und2 (all_more fr130 (by decide) (by show leastV 130 ≤ _; rw [lv130]; omega) rfl rfl rfl (by simp; omega)) ⟨h2.1, h2.2.1.trans (by unfold pickL; simp), h2.2.2⟩
/- Operations that undo one another: the statement. -/
set_option maxHeartbeats 4000000 in
theorem loop10 (Q : Post0) (ks : List Kf) (p n0 : Nat) (v c0 vw w : AVal) (xs : List AVal) (ls : List (List UInt8)) (cs : List UInt8) (h0 : Hp) (hl : ArgL v ls xs) (hlen : ls.length ≤ 60) (hcs : cs.length ≤ 10) (hw : Bytes h0 w cs) (hwn : ∀ j, ownId w = some j → j < n0) (hu : Undone cs ls)
    (hq : ∀ (h : Hp) n (x10 x11 x12 x24 x44 x60 x61 x69 : AVal), StkN h n n0 p ls [] → Ok ls [] → n0 ≤ n → Free h n → Kont env 10 none Q ks (.exit 0) (v :: c0 :: AVal.junk :: AVal.junk :: .bool false :: .bool true :: vw :: .ptr p 0 :: .int .i64 0 :: w :: x10 :: x11 :: x12 :: AVal.junk :: AVal.junk :: AVal.junk :: AVal.junk :: AVal.junk :: AVal.junk :: AVal.junk :: AVal.junk :: AVal.junk :: AVal.junk :: AVal.junk :: x24 :: AVal.junk :: AVal.junk :: AVal.junk :: AVal.junk :: AVal.junk :: AVal.junk :: AVal.junk :: AVal.junk :: AVal.junk :: AVal.junk :: AVal.junk :: AVal.junk :: AVal.junk :: AVal.junk :: AVal.junk :: AVal.junk :: AVal.junk :: AVal.junk :: AVal.junk :: x44 :: AVal.junk :: AVal.junk :: AVal.junk :: AVal.junk :: AVal.junk :: AVal.junk :: AVal.junk :: AVal.junk :: AVal.junk :: AVal.junk :: AVal.junk :: AVal.junk :: AVal.junk :: w :: .int .i64 (cs.length : Nat) :: x60 :: x61 :: AVal.junk :: AVal.junk :: AVal.junk :: AVal.junk :: AVal.junk :: AVal.junk :: AVal.junk :: x69 :: AVal.junk :: AVal.junk :: AVal.junk :: AVal.junk :: AVal.junk :: AVal.junk :: AVal.junk :: AVal.junk :: AVal.junk :: AVal.junk :: AVal.junk :: AVal.junk :: AVal.junk :: AVal.junk :: AVal.junk :: AVal.junk :: AVal.junk :: AVal.junk :: AVal.junk :: AVal.junk :: AVal.junk :: AVal.junk :: AVal.junk :: AVal.junk :: AVal.junk :: AVal.junk :: AVal.junk :: AVal.junk :: AVal.junk :: []) h n)
    (hr : ∀ (h : Hp) n (x10 x11 x12 x24 x44 x60 x61 x69 : AVal), Kont env 10 none Q ks .ret (v :: c0 :: AVal.junk :: AVal.junk :: .bool true :: .bool true :: vw :: .ptr p 0 :: .int .i64 0 :: w :: x10 :: x11 :: x12 :: AVal.junk :: AVal.junk :: AVal.junk :: AVal.junk :: AVal.junk :: AVal.junk :: AVal.junk :: AVal.junk :: AVal.junk :: AVal.junk :: AVal.junk :: x24 :: AVal.junk :: AVal.junk :: AVal.junk :: AVal.junk :: AVal.junk :: AVal.junk :: AVal.junk :: AVal.junk :: AVal.junk :: AVal.junk :: AVal.junk :: AVal.junk :: AVal.junk :: AVal.junk :: AVal.junk :: AVal.junk :: AVal.junk :: AVal.junk :: AVal.junk :: x44 :: AVal.junk :: AVal.junk :: AVal.junk :: AVal.junk :: AVal.junk :: AVal.junk :: AVal.junk :: AVal.junk :: AVal.junk :: AVal.junk :: AVal.junk :: AVal.junk :: AVal.junk :: w :: .int .i64 (cs.length : Nat) :: x60 :: x61 :: AVal.junk :: AVal.junk :: AVal.junk :: AVal.junk :: AVal.junk :: AVal.junk :: AVal.junk :: x69 :: AVal.junk :: AVal.junk :: AVal.junk :: AVal.junk :: AVal.junk :: AVal.junk :: AVal.junk :: AVal.junk :: AVal.junk :: AVal.junk :: AVal.junk :: AVal.junk :: AVal.junk :: AVal.junk :: AVal.junk :: AVal.junk :: AVal.junk :: AVal.junk :: AVal.junk :: AVal.junk :: AVal.junk :: AVal.junk :: AVal.junk :: AVal.junk :: AVal.junk :: AVal.junk :: AVal.junk :: AVal.junk :: AVal.junk :: []) h n) :
    ∀ (m i : Nat) (h : Hp) (n : Nat) (x10 x11 x12 x24 x44 x61 x69 : AVal), i + m = cs.length → ((∀ i, i < cs.length → stepE cs ls i = 0) ∧ path cs ls cs.length = (ls, []) ∨ (i = 0 ∧ stepE cs ls 0 = 120 ∧ path cs ls 1 = (ls, []) ∧ 0 < cs.length)) → Ok (path cs ls i).1 (path cs ls i).2 → StkN h n n0 p (path cs ls i).1 (path cs ls i).2 → Old h0 h n0 → n0 ≤ n → Free h n →
    Run env 10 none Q (.loop lp10_0) ks (v :: c0 :: AVal.junk :: AVal.junk :: .bool false :: .bool true :: vw :: .ptr p 0 :: .int .i64 0 :: w :: x10 :: x11 :: x12 :: AVal.junk :: AVal.junk :: AVal.junk :: AVal.junk :: AVal.junk :: AVal.junk :: AVal.junk :: AVal.junk :: AVal.junk :: AVal.junk :: AVal.junk :: x24 :: AVal.junk :: AVal.junk :: AVal.junk :: AVal.junk :: AVal.junk :: AVal.junk :: AVal.junk :: AVal.junk :: AVal.junk :: AVal.junk :: AVal.junk :: AVal.junk :: AVal.junk :: AVal.junk :: AVal.junk :: AVal.junk :: AVal.junk :: AVal.junk :: AVal.junk :: x44 :: AVal.junk :: AVal.junk :: AVal.junk :: AVal.junk :: AVal.junk :: AVal.junk :: AVal.junk :: AVal.junk :: AVal.junk :: AVal.junk :: AVal.junk :: AVal.junk :: AVal.junk :: w :: .int .i64 (cs.length : Nat) :: .int .i64 (i : Nat) :: x61 :: AVal.junk :: AVal.junk :: AVal.junk :: AVal.junk :: AVal.junk :: AVal.junk :: AVal.junk :: x69 :: AVal.junk :: AVal.junk :: AVal.junk :: AVal.junk :: AVal.junk :: AVal.junk :: AVal.junk :: AVal.junk :: AVal.junk :: AVal.junk :: AVal.junk :: AVal.junk :: AVal.junk :: AVal.junk :: AVal.junk :: AVal.junk :: AVal.junk :: AVal.junk :: AVal.junk :: AVal.junk :: AVal.junk :: AVal.junk :: AVal.junk :: AVal.junk :: AVal.junk :: AVal.junk :: AVal.junk :: AVal.junk :: AVal.junk :: []) h n := by
  intro m
  induction m with
  | zero =>
    intro i h n x10 x11 x12 x24 x44 x61 x69 hi hU ok st old hn hf
    have : i = cs.length := by omega
    subst this
    have hc : ¬ ((cs.length : Nat) : Int) < ((cs.length : Nat) : Int) := by omega
    rw [run_loop]
    simp only [lp10_0, loopsOf, Try.f10, Option.getD_some, core1, fgr, execOp, opd, putT, put, nth, forgetL, bor, binInt, shiftB, intOp, List.append_eq, List.cons_append, List.nil_append, List.append_nil, decide_true, decide_false, List.getD_cons_zero, hc]
    rcases hU with ⟨_, hU⟩ | ⟨q, _, _, q2⟩
    · rw [hU] at ok st
      exact hq h n _ _ _ _ _ _ _ _ st ok hn hf
    · omega
  | succ m ih =>
    intro i h n x10 x11 x12 x24 x44 x61 x69 hi hU ok st old hn hf
    have hil : i < cs.length := by omega
    have hc : ((i : Nat) : Int) < ((cs.length : Nat) : Int) := by omega
    have hwr : IntKind.i64.wrap (((i : Nat) : Int) + 1) = ((i + 1 : Nat) : Int) := by rw [w64 (by omega) (by omega)]; omega
    have hwh : Bytes h w cs := hw.keep fun j hj => old j (hwn j hj)
    have hget : (cs.map u8)[i]? = some (.int .u8 ((cs[i].toNat : Nat) : Int)) := by rw [List.getElem?_map, List.getElem?_eq_getElem hil]; rfl
    have hgd : cs.getD i 0 = cs[i] := by rw [List.getD_eq_getElem?_getD, List.getElem?_eq_getElem hil]; rfl
    obtain ⟨D, M, s, hd, hm⟩ := st
    have okn := ok.n
    have ok1 := all_ok (c := (cs[i].toNat : Int)) ok
    have hst : stepE cs ls i = allE (cs[i].toNat : Int) (path cs ls i).1 (path cs ls i).2 := by unfold stepE; rw [hgd]
    have hp1 : path cs ls (i + 1) = (allL (cs[i].toNat : Int) (path cs ls i).1 (path cs ls i).2, allO (cs[i].toNat : Int) (path cs ls i).1 (path cs ls i).2) := by show (allL ((cs.getD i 0).toNat : Int) _ _, allO _ _ _) = _; rw [hgd]
    rw [run_loop]
    simp only [lp10_0, loopsOf, Try.f10, Option.getD_some, core1, fgr, execOp, opd, putT, put, nth, forgetL, bor, binInt, shiftB, intOp, List.append_eq, List.cons_append, List.nil_append, List.append_nil, decide_true, List.getD_cons_zero, hc]
    rw [opv_rd (hwh.rds.idx (j := i) t22 s5 rfl hil)]
    simp only [core1, execOp, opd, putT, put, nth, Nat.mul_one]
    rw [opv_rd (hwh.rds.load (k := i) ti5 rfl hget)]
    simp only [core1, fgr, hkr, execOp, opd, opds, putT, put, nth, forgetL, doCall, callV_func, List.nil_append, List.append_nil]
    refine opv_callf hf (f38 p (cs[i].toNat : Int) _ _ D M h n s (by omega) (by omega) (fun l hl => by have := ok.l l hl; omega) hf) fun v1 h1 n1 hn1 f1 ⟨e1, D', M', s1, c1⟩ => ?_
    subst e1
    have old1 : Old h0 h1 n0 := fun j hj => by rw [c1.old j (by omega) (fun q => by have := hm j q; omega)]; exact old j hj
    have st1 : StkN h1 n1 n0 p (path cs ls (i + 1)).1 (path cs ls (i + 1)).2 := by
      rw [hp1]
      exact ⟨D', M', s1, fun j hj => (c1.d' j hj).elim (hd j) (fun q => by omega), fun j hj => (c1.m' j hj).elim (hm j) (fun q => by omega)⟩
    rcases hU with ⟨hU, hU2⟩ | ⟨q, hU, hU2, _⟩
    · have he : allE (cs[i].toNat : Int) (path cs ls i).1 (path cs ls i).2 = 0 := by rw [← hst]; exact hU i hil
      simp only [core1, fgr, execOp, opd, ofValue, putT, put, nth, forgetL, bor, binInt, shiftB, intOp, wrapI, decide_true, bne_self_eq_false, he, hwr]
      exact ih (i + 1) h1 n1 _ _ _ _ _ _ _ (by omega) (.inl ⟨hU, hU2⟩) (by rw [hp1]; exact ok1) st1 old1 (by omega) f1
    · subst q
      have he : allE (cs[0].toNat : Int) (path cs ls 0).1 (path cs ls 0).2 = 120 := by rw [← hst]; exact hU
      rw [show (0 : Nat) + 1 = 1 from rfl, hU2] at st1
      have ok2 : Ok ls [] := by have := path_ok (cs := cs) (ls := ls) ok 1; rw [hU2] at this; exact this
      obtain ⟨D2, M2, s2, _, _⟩ := st1
      simp only [core1, fgr, hkr, execOp, opd, opds, ofValue, putT, put, nth, forgetL, doCall, callV_func, bor, binInt, shiftB, intOp, doPick, branch, List.getElem?_cons_succ, List.getElem?_cons_zero, List.nil_append, List.append_nil, Int.cast_ofNat_Int, int_bne, Int.reduceEq, not_false_eq_true, decide_true, beq_self_eq_true, he]
      refine opv_callf f1 (f40 p ls [] D2 M2 h1 n1 s2 (by omega) (fun l hl => by have := ok2.l l hl; omega) f1) fun v3 h3 n3 hn3 f3 ⟨ys, D3, l3, el3, _, _, _, o3⟩ => ?_
      simp only [core1, hkr, execOp, opd, opds, putT, put, nth, doCall, callV_func, List.getElem?_cons_succ, List.getElem?_cons_zero, List.nil_append, List.append_nil]
      refine opv_same (f39 v3 v ys xs ls ls D3 (fun _ => False) h3 n3 (by omega) l3.rds (hl.rd h3) el3 (hl.el h3) (fun l hl => by have := ok2.l l hl; omega) (fun l hl => by have := ok2.l l hl; omega) f3) ?_
      simp only [core1, fgr, execOp, opd, ofValue, putT, put, nth, forgetL, doPick, branch, decide_true]
      exact hr h3 n3 _ _ _ _ _ _ _ _
theorem tmod11 (c : Nat) : Int.tmod ((c : Nat) : Int) 11 = ((c % 11 : Nat) : Int) := Int.ofNat_tmod _ _
set_option maxHeartbeats 16000000 in
theorem law10 (v : AVal) (hv : Arg Try.prog 53 [v]) (c : Int) (wc : (Lit.int .u8 c).wf = true) : Wp (callI env (evalW env) 10 [v, .int .u8 c]) (fun _ => none) 0 fun v' _ _ => v' = .bool true := by
  obtain ⟨ls, xs, hl⟩ := argL hv
  obtain ⟨cn, hcn, rfl⟩ : ∃ cn : Nat, cn < 256 ∧ c = (cn : Nat) := ⟨(byteOf c).toNat, UInt8.toNat_lt _, (byteOf_eq wc).symm⟩
  refine wp_callI ff10 fi10 ?_
  have f0 : Free (fun _ => none) 0 := Free.none
  generalize (fun _ => none : Hp) = h0 at *
  have hml := hl.len
  have hmx : maxLen = 9223372036854775807 := by decide
  simp only [fu10, Try.f10, Option.getD_some, List.replicate, core1, fgr, hkr, execOp, opd, opds, ofValue, putT, put, forgetL, doCall, callV_func, ended, resultOf, oneOrTup, List.append_eq, List.cons_append, List.nil_append, List.append_nil, List.length_cons, List.length_nil, Nat.reduceAdd, Nat.reduceSub, Nat.zero_add, wp_pure]
  refine opv_callf f0 (f35 h0 0 f0) fun v1 h1 n1 hn1 f1 ⟨e1, o1⟩ => ?_
  subst e1
  by_cases hg1 : 60 < ls.length
  · have hc : 60 < ((ls.length : Nat) : Int) := by omega
    simp only [core1, fgr, execOp, opd, opds, ofValue, putT, put, nth, forgetL, doCall, builtin, one1, bor, binInt, shiftB, intOp, doPick, branch, List.getElem?_cons_succ, List.getElem?_cons_zero, gt_iff_lt, decide_true, and_self, (hl.rd h1).bLen u53, hc]
  have hc : ¬ 60 < ((ls.length : Nat) : Int) := by omega
  simp only [core1, fgr, hkr, execOp, opd, opds, ofValue, putT, put, nth, forgetL, doCall, callV_func, builtin, one1, bor, binInt, shiftB, intOp, List.getElem?_cons_succ, List.getElem?_cons_zero, List.nil_append, List.append_nil, gt_iff_lt, decide_true, decide_false, (hl.rd h1).bLen u53, hc]
  refine opv_same (f36 v xs ls (fun _ => False) h1 n1 (by omega) (hl.rd h1) (hl.el h1)) ?_
  cases hg : greatV ls with
  | true => simp only [core1, fgr, execOp, opd, ofValue, putT, put, nth, forgetL, doPick, branch, List.getElem?_cons_succ, List.getElem?_cons_zero, and_self]
  | false =>
  have hov : ∀ l ∈ ls, l.length ≤ 600 := by
    unfold greatV at hg
    exact over_false (Bool.or_eq_false_iff.1 hg).1
  obtain ⟨h2, eh2⟩ : ∃ h2, h2 = h1 := ⟨_, rfl⟩
  obtain ⟨n2, en2⟩ : ∃ n2, n2 = n1 := ⟨_, rfl⟩
  rw [← eh2, ← en2] at f1 ⊢
  have f2 := f1
  simp (disch := omega) only [core1, tyr, fgr, hkr, execOp, opd, opds, ofValue, ops2, putT, put, nth, forgetL, doCall, callV_func, und, unOp, doPick, branch, cel, newRow, getO, List.getElem?_cons_succ, List.getElem?_cons_zero, List.cons_append, List.nil_append, List.append_nil, List.length_cons, List.length_nil, Nat.reduceAdd, Nat.beq, Bool.not_true, Bool.not_false, Bool.and_true, Bool.true_and, Nat.zero_add, Nat.zero_mul, buildSlice, reps, fill, List.take_succ_cons, List.take_zero, List.drop_succ_cons, List.drop_zero, Nat.ble, Nat.mul_one, Nat.one_mul, List.length_cons, List.length_nil, Nat.zero_mul]
  generalize hHW : upd (upd (upd (upd (upd (upd (upd (upd (upd (upd (upd (upd h2 (n2) _) (n2 + 1) _) (n2 + 1 + 1) _) (n2 + 1 + 1 + 1) _) (n2 + 1 + 1 + 1 + 1) _) (n2 + 1 + 1 + 1 + 1 + 1) _) (n2 + 1 + 1 + 1 + 1 + 1 + 1) _) (n2 + 1 + 1 + 1 + 1 + 1 + 1 + 1) _) (n2 + 1 + 1 + 1 + 1 + 1 + 1 + 1 + 1) _) (n2 + 1 + 1 + 1 + 1 + 1 + 1 + 1 + 1 + 1) _) (n2 + 1 + 1 + 1 + 1 + 1 + 1 + 1 + 1 + 1 + 1) _) (n2 + 1 + 1 + 1 + 1 + 1 + 1 + 1 + 1 + 1 + 1 + 1) _ = HW
  have g0 : HW (n2) = some (.row (.l [.int .u8 107, .int .u8 108]) 5) := by rw [← hHW]; simp (disch := omega) only [upd_same, upd_ne]
  have g1 : HW (n2 + 1) = some (.row (.l [.int .u8 124, .int .u8 124]) 5) := by rw [← hHW]; simp (disch := omega) only [upd_same, upd_ne]
  have g2 : HW (n2 + 1 + 1) = some (.row (.l [.int .u8 123, .int .u8 123, .int .u8 123]) 5) := by rw [← hHW]; simp (disch := omega) only [upd_same, upd_ne]
  have g3 : HW (n2 + 1 + 1 + 1) = some (.row (.l [.int .u8 114, .int .u8 114]) 5) := by rw [← hHW]; simp (disch := omega) only [upd_same, upd_ne]
  have g4 : HW (n2 + 1 + 1 + 1 + 1) = some (.row (.l [.int .u8 113, .int .u8 113, .int .u8 113]) 5) := by rw [← hHW]; simp (disch := omega) only [upd_same, upd_ne]
  have g5 : HW (n2 + 1 + 1 + 1 + 1 + 1) = some (.row (.l [.int .u8 118, .int .u8 117]) 5) := by rw [← hHW]; simp (disch := omega) only [upd_same, upd_ne]
  have g6 : HW (n2 + 1 + 1 + 1 + 1 + 1 + 1) = some (.row (.l [.int .u8 125, .int .u8 123, .int .u8 117]) 5) := by rw [← hHW]; simp (disch := omega) only [upd_same, upd_ne]
  have g7 : HW (n2 + 1 + 1 + 1 + 1 + 1 + 1 + 1) = some (.row (.l [.int .u8 120, .int .u8 117]) 5) := by rw [← hHW]; simp (disch := omega) only [upd_same, upd_ne]
  have g8 : HW (n2 + 1 + 1 + 1 + 1 + 1 + 1 + 1 + 1) = some (.row (.l [.int .u8 110, .int .u8 109]) 5) := by rw [← hHW]; simp (disch := omega) only [upd_same, upd_ne]
  have g9 : HW (n2 + 1 + 1 + 1 + 1 + 1 + 1 + 1 + 1 + 1) = some (.row (.l [.int .u8 116, .int .u8 117]) 5) := by rw [← hHW]; simp (disch := omega) only [upd_same, upd_ne]
  have g10 : HW (n2 + 1 + 1 + 1 + 1 + 1 + 1 + 1 + 1 + 1 + 1) = some (.row (.l [.int .u8 130, .int .u8 117]) 5) := by rw [← hHW]; simp (disch := omega) only [upd_same, upd_ne]
  have gw : HW (n2 + 1 + 1 + 1 + 1 + 1 + 1 + 1 + 1 + 1 + 1 + 1) = some (.row (.l [.sl (n2) 0 2 (some 2) 1, .sl (n2 + 1) 0 2 (some 2) 1, .sl (n2 + 1 + 1) 0 3 (some 3) 1, .sl (n2 + 1 + 1 + 1) 0 2 (some 2) 1, .sl (n2 + 1 + 1 + 1 + 1) 0 3 (some 3) 1, .sl (n2 + 1 + 1 + 1 + 1 + 1) 0 2 (some 2) 1, .sl (n2 + 1 + 1 + 1 + 1 + 1 + 1) 0 3 (some 3) 1, .sl (n2 + 1 + 1 + 1 + 1 + 1 + 1 + 1) 0 2 (some 2) 1, .sl (n2 + 1 + 1 + 1 + 1 + 1 + 1 + 1 + 1) 0 2 (some 2) 1, .sl (n2 + 1 + 1 + 1 + 1 + 1 + 1 + 1 + 1 + 1) 0 2 (some 2) 1, .sl (n2 + 1 + 1 + 1 + 1 + 1 + 1 + 1 + 1 + 1 + 1) 0 2 (some 2) 1]) 22) := by rw [← hHW]; simp (disch := omega) only [upd_same]
  have oW : Old h2 HW n2 := fun j hj => by rw [← hHW]; simp (disch := omega) only [upd_ne]
  have fW : Free HW (n2 + 1 + 1 + 1 + 1 + 1 + 1 + 1 + 1 + 1 + 1 + 1 + 1) := fun j hj => by rw [← hHW]; simp (disch := omega) only [upd_ne]; exact f2 j (by omega)
  have hway : ∀ k (hk : k < 11), ∃ j, j < n2 + 1 + 1 + 1 + 1 + 1 + 1 + 1 + 1 + 1 + 1 + 1 + 1 ∧ ([.sl (n2) 0 2 (some 2) 1, .sl (n2 + 1) 0 2 (some 2) 1, .sl (n2 + 1 + 1) 0 3 (some 3) 1, .sl (n2 + 1 + 1 + 1) 0 2 (some 2) 1, .sl (n2 + 1 + 1 + 1 + 1) 0 3 (some 3) 1, .sl (n2 + 1 + 1 + 1 + 1 + 1) 0 2 (some 2) 1, .sl (n2 + 1 + 1 + 1 + 1 + 1 + 1) 0 3 (some 3) 1, .sl (n2 + 1 + 1 + 1 + 1 + 1 + 1 + 1) 0 2 (some 2) 1, .sl (n2 + 1 + 1 + 1 + 1 + 1 + 1 + 1 + 1) 0 2 (some 2) 1, .sl (n2 + 1 + 1 + 1 + 1 + 1 + 1 + 1 + 1 + 1) 0 2 (some 2) 1, .sl (n2 + 1 + 1 + 1 + 1 + 1 + 1 + 1 + 1 + 1 + 1) 0 2 (some 2) 1] : List AVal)[k]? = some (.sl j 0 (ways.getD k []).length (some (ways.getD k []).length) 1) ∧ Bytes HW (.sl j 0 (ways.getD k []).length (some (ways.getD k []).length) 1) (ways.getD k []) := by
    intro k hk
    match k, hk with
    | 0, _ => exact ⟨n2, by omega, rfl, one_bytes [107, 108] g0 rfl⟩
    | 1, _ => exact ⟨n2 + 1, by omega, rfl, one_bytes [124, 124] g1 rfl⟩
    | 2, _ => exact ⟨n2 + 1 + 1, by omega, rfl, one_bytes [123, 123, 123] g2 rfl⟩
    | 3, _ => exact ⟨n2 + 1 + 1 + 1, by omega, rfl, one_bytes [114, 114] g3 rfl⟩
    | 4, _ => exact ⟨n2 + 1 + 1 + 1 + 1, by omega, rfl, one_bytes [113, 113, 113] g4 rfl⟩
    | 5, _ => exact ⟨n2 + 1 + 1 + 1 + 1 + 1, by omega, rfl, one_bytes [118, 117] g5 rfl⟩
    | 6, _ => exact ⟨n2 + 1 + 1 + 1 + 1 + 1 + 1, by omega, rfl, one_bytes [125, 123, 117] g6 rfl⟩
    | 7, _ => exact ⟨n2 + 1 + 1 + 1 + 1 + 1 + 1 + 1, by omega, rfl, one_bytes [120, 117] g7 rfl⟩
    | 8, _ => exact ⟨n2 + 1 + 1 + 1 + 1 + 1 + 1 + 1 + 1, by omega, rfl, one_bytes [110, 109] g8 rfl⟩
    | 9, _ => exact ⟨n2 + 1 + 1 + 1 + 1 + 1 + 1 + 1 + 1 + 1, by omega, rfl, one_bytes [116, 117] g9 rfl⟩
    | 10, _ => exact ⟨n2 + 1 + 1 + 1 + 1 + 1 + 1 + 1 + 1 + 1 + 1, by omega, rfl, one_bytes [130, 117] g10 rfl⟩
  clear hHW
  have gwR : Rds HW 1 (.sl (n2 + 1 + 1 + 1 + 1 + 1 + 1 + 1 + 1 + 1 + 1 + 1) 0 11 (some 11) 1) 11 ([.sl (n2) 0 2 (some 2) 1, .sl (n2 + 1) 0 2 (some 2) 1, .sl (n2 + 1 + 1) 0 3 (some 3) 1, .sl (n2 + 1 + 1 + 1) 0 2 (some 2) 1, .sl (n2 + 1 + 1 + 1 + 1) 0 3 (some 3) 1, .sl (n2 + 1 + 1 + 1 + 1 + 1) 0 2 (some 2) 1, .sl (n2 + 1 + 1 + 1 + 1 + 1 + 1) 0 3 (some 3) 1, .sl (n2 + 1 + 1 + 1 + 1 + 1 + 1 + 1) 0 2 (some 2) 1, .sl (n2 + 1 + 1 + 1 + 1 + 1 + 1 + 1 + 1) 0 2 (some 2) 1, .sl (n2 + 1 + 1 + 1 + 1 + 1 + 1 + 1 + 1 + 1) 0 2 (some 2) 1, .sl (n2 + 1 + 1 + 1 + 1 + 1 + 1 + 1 + 1 + 1 + 1) 0 2 (some 2) 1]) := row_rds gw rfl
  generalize ([.sl (n2) 0 2 (some 2) 1, .sl (n2 + 1) 0 2 (some 2) 1, .sl (n2 + 1 + 1) 0 3 (some 3) 1, .sl (n2 + 1 + 1 + 1) 0 2 (some 2) 1, .sl (n2 + 1 + 1 + 1 + 1) 0 3 (some 3) 1, .sl (n2 + 1 + 1 + 1 + 1 + 1) 0 2 (some 2) 1, .sl (n2 + 1 + 1 + 1 + 1 + 1 + 1) 0 3 (some 3) 1, .sl (n2 + 1 + 1 + 1 + 1 + 1 + 1 + 1) 0 2 (some 2) 1, .sl (n2 + 1 + 1 + 1 + 1 + 1 + 1 + 1 + 1) 0 2 (some 2) 1, .sl (n2 + 1 + 1 + 1 + 1 + 1 + 1 + 1 + 1 + 1) 0 2 (some 2) 1, .sl (n2 + 1 + 1 + 1 + 1 + 1 + 1 + 1 + 1 + 1 + 1) 0 2 (some 2) 1] : List AVal) = wc at *
  generalize hN : n2 + 1 + 1 + 1 + 1 + 1 + 1 + 1 + 1 + 1 + 1 + 1 + 1 = N at *
  have hNN : n2 ≤ N := by omega
  refine opv_callf fW (f37 v xs ls (fun _ => False) HW N (by omega) (hl.rd HW) (fun j hj => by rw [hl.id] at hj; cases hj) (hl.el HW) (fun j hj => hj.elim) fW) fun v3 h3 n3 hn3 f3 ⟨o3, hh⟩ => ?_
  rcases hh with ⟨hne, e3⟩ | ⟨hne, p, e3, st⟩
  · subst e3
    have he : newE ls = 120 := by
      unfold newE at hne ⊢
      by_cases q : ls.any longB = true
      · rw [if_pos q]
      · rw [if_neg q, if_neg (by omega)] at hne; exact absurd rfl hne
    simp only [core1, fgr, execOp, opd, ofValue, putT, put, nth, forgetL, bor, binInt, shiftB, intOp, doPick, branch, extract, getO, List.getElem?_cons_succ, List.getElem?_cons_zero, int_bne, Int.reduceEq, not_false_eq_true, decide_true, and_self, beq_self_eq_true, he]
  subst e3
  have ok0 := new_ok hne
  have hk : cn % 11 < 11 := Nat.mod_lt _ (by decide)
  obtain ⟨j, hj, hgk, hbk⟩ := hway (cn % 11) hk
  have gw3 : Rds h3 1 (.sl (n2 + 1 + 1 + 1 + 1 + 1 + 1 + 1 + 1 + 1 + 1 + 1) 0 11 (some 11) 1) 11 wc := gwR.keep fun i hi => o3 i (by injection hi with hi; omega)
  have hb3 : Bytes h3 (.sl j 0 (ways.getD (cn % 11) []).length (some (ways.getD (cn % 11) []).length) 1) (ways.getD (cn % 11) []) := hbk.keep fun i hi => o3 i (by injection hi with hi; omega)
  have hmem : ways.getD (cn % 11) [] ∈ ways := by
    rw [List.getD_eq_getElem?_getD, List.getElem?_eq_getElem (show cn % 11 < ways.length from hk)]
    exact List.getElem_mem _
  have hwl : (ways.getD (cn % 11) []).length ≤ 10 ∧ 0 < (ways.getD (cn % 11) []).length := by
    have : ∀ w ∈ ways, w.length ≤ 10 ∧ 0 < w.length := by decide
    exact this _ hmem
  have hund := undone (ls := ls) hmem (by omega)
  have wcv : IntKind.i64.wrap ((cn : Nat) : Int) = ((cn : Nat) : Int) := w64 (by omega) (by omega)
  simp only [core1, tyr, fgr, execOp, opd, opds, ofValue, putT, put, nth, forgetL, doCall, builtin, one1, blr, und, lenOf, bor, binInt, shiftB, intOp, wrapI, strK, intK, extract, getO, List.getElem?_cons_succ, List.getElem?_cons_zero, Int.cast_ofNat_Int, Int.reduceNe, decide_true, true_and, bne_self_eq_false, convert, convStr, isU8, wcv, tmod11]
  rw [opv_rd (gw3.idx (j := cn % 11) u53 s22 rfl hk)]
  simp only [core1, execOp, opd, putT, put, nth, Nat.mul_one]
  rw [opv_rd (gw3.load (k := cn % 11) ti22 rfl hgk)]
  generalize ways.getD (cn % 11) [] = cs at *
  simp only [core1, fgr, execOp, opd, opds, ofValue, putT, put, nth, forgetL, doCall, builtin, one1, hb3.bLen t22]
  refine loop10 _ _ p N v _ _ _ xs ls cs h3 hl (by omega) hwl.1 hb3 (fun i hi => by injection hi with hi; omega) hund ?_ ?_ cs.length 0 h3 n3 _ _ _ _ _ _ _ (by omega) (hund.elim (fun q => .inr ⟨rfl, q.1, q.2, hwl.2⟩) .inl) ok0 st (Old.refl _ _) hn3 f3
  · intro h4 n4 x10 x11 x12 x24 x44 x60 x61 x69 st4 ok4 hn4 f4
    obtain ⟨D, M, s4, hd, hm⟩ := st4
    simp only [core1, hkr, execOp, opd, opds, putT, put, nth, doCall, callV_func, List.getElem?_cons_succ, List.getElem?_cons_zero, List.nil_append, List.append_nil]
    refine opv_callf f4 (f41 p ls [] D M h4 n4 s4 (by simp) (fun l hl => by simp at hl) f4) fun v5 h5 n5 hn5 f5 ⟨ys, D5, l5, _, _, _, _, o5⟩ => ?_
    have s5 := s4.old hn5 o5
    simp only [core1, hkr, execOp, opd, opds, ofValue, putT, put, nth, doCall, callV_func, builtin, one1, bor, binInt, shiftB, intOp, doPick, branch, List.getElem?_cons_succ, List.getElem?_cons_zero, List.nil_append, List.append_nil, List.length_nil, Int.cast_ofNat_Int, decide_true, beq_self_eq_true, l5.rds.bLen u53, List.length_nil]
    refine opv_callf f5 (f40 p ls [] D M h5 n5 s5 (by omega) (fun l hl => by have := ok4.l l hl; omega) f5) fun v6 h6 n6 hn6 f6 ⟨zs, D6, l6, el6, _, _, _, o6⟩ => ?_
    simp only [core1, hkr, execOp, opd, opds, putT, put, nth, doCall, callV_func, List.getElem?_cons_succ, List.getElem?_cons_zero, List.nil_append, List.append_nil]
    refine opv_same (f39 v6 v zs xs ls ls D6 (fun _ => False) h6 n6 (by omega) l6.rds (hl.rd h6) el6 (hl.el h6) (fun l hl => by have := ok4.l l hl; omega) (fun l hl => by have := ok4.l l hl; omega) f6) ?_
    simp only [core1, fgr, execOp, opd, ofValue, putT, put, nth, forgetL, doPick, branch, decide_true, and_self]
  · intro h4 n4 x10 x11 x12 x24 x44 x60 x61 x69
    simp only [core1, nth, and_self]
end Go.Am.Ytmoplhbncjicbaa
