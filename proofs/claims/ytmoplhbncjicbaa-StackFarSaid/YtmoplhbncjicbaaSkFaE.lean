/- The functions that the statement reaches, gone through. -/
import Derived.Test.YtmoplhbncjicbaaSkFaD
set_option linter.unusedSimpArgs false
set_option linter.unusedVariables false
set_option linter.defProp false
set_option maxRecDepth 10000
namespace Go.Am.Ytmoplhbncjicbaa
open Go Go.Am Go.Proofs
theorem f36 (v : AVal) (xs : List AVal) (ls : List (List UInt8)) (D : Nat → Prop) (h : Hp) (n : Nat) (hlen : ls.length ≤ 9223372036854775807) (hv : Rds h 1 v ls.length xs) (hel : Els h D xs ls) :
    Wp (callI env (evalW env) 36 [v, .nils]) h n fun v' h' n' => v' = .bool (greatV ls) ∧ h' = h ∧ n' = n := by
  refine wp_callI ff36 fi36 ?_
  simp only [fu36, Try.f36, Option.getD_some, List.replicate, core1, fgr, execOp, opd, opds, ofValue, putT, put, nth, forgetL, doCall, builtin, one1, ended, resultOf, oneOrTup, List.cons_append, List.nil_append, List.length_cons, List.length_nil, Nat.reduceAdd, Nat.reduceSub, Nat.zero_add, wp_pure, hv.bLen u53]
  refine loop36 _ _ v .nils xs ls D h n hlen hv hel ?_ ?_ ls.length 0 _ _ _ _ _ _ _ _ (by omega) rfl
  · intro x5 x6 x10 x17 x20 x21 x22 x30 ha
    simp only [core1, fgr, execOp, opd, opds, ofValue, putT, put, nth, forgetL, doCall, builtin, one1, blr]
    rw [run_loop]
    by_cases h150 : 150 < ls.length
    · have hc : 150 < ((ls.length : Nat) : Int) := by omega
      simp only [core1, fgr, execOp, opd, opds, ofValue, putT, put, nth, forgetL, doCall, builtin, one1, bor, binInt, shiftB, intOp, doPick, branch, List.getElem?_cons_succ, List.getElem?_cons_zero, Int.reduceLT, gt_iff_lt, decide_true, decide_false, Bool.or_true, and_self, hv.bLen u53, hc, greatV, ha, h150]
    · have hc : ¬ 150 < ((ls.length : Nat) : Int) := by omega
      simp only [core1, fgr, execOp, opd, opds, ofValue, putT, put, nth, forgetL, doCall, builtin, one1, blr, bor, binInt, shiftB, intOp, doPick, branch, List.getElem?_cons_succ, List.getElem?_cons_zero, Int.reduceLT, gt_iff_lt, decide_true, decide_false, Bool.or_false, and_self, hv.bLen u53, hc, greatV, ha, h150]
  · intro x5 x6 x10 x17 x20 x21 x22 x30 z ha
    simp only [core1, nth, Bool.true_or, and_self, greatV, ha]
theorem top_app {base : List (List UInt8)} {x : List UInt8} : topL (base ++ [x]) 0 = x := by unfold topL; simp
theorem pop_app {base : List (List UInt8)} {x : List UInt8} : popL (base ++ [x]) = base := by unfold popL; simp
/- What was pushed is popped: the statement. -/
theorem new120 {ls : List (List UInt8)} (h : newE ls ≠ 0) (hl : ls.length ≤ 100) : newE ls = 120 := by
  unfold newE at h ⊢
  by_cases q : ls.any longB = true
  · rw [if_pos q]
  · rw [if_neg q, if_neg (by omega)] at h; exact absurd rfl h
/- Plain laws of a number's bytes. -/
theorem dig1 {m : Nat} (h : 0 < m) (h2 : m < 256) : dig m = [UInt8.ofNat m] := by
  rw [dig_pos h, show m / 256 = 0 by omega, dig_zero, show m % 256 = m by omega]
theorem dig2 {m : Nat} (h : 256 ≤ m) (h2 : m < 65536) : dig m = [UInt8.ofNat (m % 256), UInt8.ofNat (m / 256)] := by
  rw [dig_pos (by omega), dig1 (by omega) (by omega)]
theorem dig3 {m : Nat} (h : 65536 ≤ m) (h2 : m < 16777216) : dig m = [UInt8.ofNat (m % 256), UInt8.ofNat (m / 256 % 256), UInt8.ofNat (m / 65536)] := by
  rw [dig_pos (by omega), dig2 (by omega) (by omega), show m / 256 / 256 = m / 65536 by omega]
theorem dig4 {m : Nat} (h : 16777216 ≤ m) (h2 : m < 4294967296) : dig m = [UInt8.ofNat (m % 256), UInt8.ofNat (m / 256 % 256), UInt8.ofNat (m / 65536 % 256), UInt8.ofNat (m / 16777216)] := by
  rw [dig_pos (by omega), dig3 (by omega) (by omega), show m / 256 / 256 = m / 65536 by omega, show m / 256 / 65536 = m / 16777216 by omega]
theorem dig5 {m : Nat} (h : 4294967296 ≤ m) (h2 : m < 1099511627776) : dig m = [UInt8.ofNat (m % 256), UInt8.ofNat (m / 256 % 256), UInt8.ofNat (m / 65536 % 256), UInt8.ofNat (m / 16777216 % 256), UInt8.ofNat (m / 4294967296)] := by
  rw [dig_pos (by omega), dig4 (by omega) (by omega), show m / 256 / 256 = m / 65536 by omega, show m / 256 / 65536 = m / 16777216 by omega, show m / 256 / 16777216 = m / 4294967296 by omega]
theorem fin1 (s : Nat) (a : UInt8) : fin s [a] = if 128 ≤ a.toNat then [a, UInt8.ofNat s] else [UInt8.ofNat (a.toNat + s)] := by simp [fin]
theorem fin2 (s : Nat) (a b : UInt8) : fin s [a, b] = if 128 ≤ b.toNat then [a, b, UInt8.ofNat s] else [a, UInt8.ofNat (b.toNat + s)] := by simp [fin]
theorem fin3 (s : Nat) (a b c : UInt8) : fin s [a, b, c] = if 128 ≤ c.toNat then [a, b, c, UInt8.ofNat s] else [a, b, UInt8.ofNat (c.toNat + s)] := by simp [fin]
theorem fin4 (s : Nat) (a b c d : UInt8) : fin s [a, b, c, d] = if 128 ≤ d.toNat then [a, b, c, d, UInt8.ofNat s] else [a, b, c, UInt8.ofNat (d.toNat + s)] := by simp [fin]
theorem fin5 (s : Nat) (a b c d e : UInt8) : fin s [a, b, c, d, e] = if 128 ≤ e.toNat then [a, b, c, d, e, UInt8.ofNat s] else [a, b, c, d, UInt8.ofNat (e.toNat + s)] := by simp [fin]
theorem toN (k : Nat) : (UInt8.ofNat k).toNat = k % 256 := by rw [UInt8.toNat_ofNat']
/-- What stands of bytes of a number. -/
def Good (x : Int) (l : List UInt8) : Prop :=
  (tv l = true ↔ ¬ x = 0) ∧ l.length ≤ 5 ∧ (-2147483647 ≤ x ∧ x ≤ 2147483647 → l.length ≤ 4 ∧ num4 l = x) ∧ (¬ (-2147483647 ≤ x ∧ x ≤ 2147483647) → l.length = 5)
theorem fm_all (x : Int) (h1 : -549755813888 < x) (h2 : x < 549755813888) : Good x (fmB x) := by
  unfold fmB
  have hm : x.natAbs < 549755813888 := by omega
  obtain ⟨m, e⟩ : ∃ m, x.natAbs = m := ⟨_, rfl⟩
  rw [e] at hm ⊢
  have hs : (sgn x = 128 ∧ x = -(m : Int) ∧ 0 < m) ∨ (sgn x = 0 ∧ x = (m : Int)) := by
    unfold sgn; split <;> omega
  by_cases c0 : m = 0
  · subst c0
    have : x = 0 := by omega
    subst this
    rw [dig_zero, fin_nil]
    exact ⟨by simp [tv], by simp, fun _ => ⟨by simp, rfl⟩, fun h => absurd ⟨by decide, by decide⟩ h⟩
  by_cases c1 : m < 256
  · rw [dig1 (by omega) c1, fin1, toN]
    by_cases hg : 128 ≤ m % 256
    · rw [if_pos hg]
      rcases hs with ⟨hs, hx, _⟩ | ⟨hs, hx⟩ <;> rw [hs] <;>
      refine ⟨by simp only [tv, toN, Bool.or_eq_true, Bool.and_eq_true, decide_eq_true_eq]; omega, by simp, fun _ => ⟨by simp, ?_⟩, fun hh => by omega⟩ <;>
      simp only [num4, toN] <;> split <;> omega
    · rw [if_neg hg]
      rcases hs with ⟨hs, hx, _⟩ | ⟨hs, hx⟩ <;> rw [hs] <;>
      refine ⟨by simp only [tv, toN, Bool.and_eq_true, decide_eq_true_eq]; omega, by simp, fun _ => ⟨by simp, ?_⟩, fun hh => by omega⟩ <;>
      simp only [num4, toN] <;> split <;> omega
  by_cases c2 : m < 65536
  · rw [dig2 (by omega) c2, fin2, toN]
    by_cases hg : 128 ≤ m / 256 % 256
    · rw [if_pos hg]
      rcases hs with ⟨hs, hx, _⟩ | ⟨hs, hx⟩ <;> rw [hs] <;>
      refine ⟨by simp only [tv, toN, Bool.or_eq_true, Bool.and_eq_true, decide_eq_true_eq]; omega, by simp, fun _ => ⟨by simp, ?_⟩, fun hh => by omega⟩ <;>
      simp only [num4, toN] <;> split <;> omega
    · rw [if_neg hg]
      rcases hs with ⟨hs, hx, _⟩ | ⟨hs, hx⟩ <;> rw [hs] <;>
      refine ⟨by simp only [tv, toN, Bool.or_eq_true, Bool.and_eq_true, decide_eq_true_eq]; omega, by simp, fun _ => ⟨by simp, ?_⟩, fun hh => by omega⟩ <;>
      simp only [num4, toN] <;> split <;> omega
  by_cases c3 : m < 16777216
  · rw [dig3 (by omega) c3, fin3, toN]
    by_cases hg : 128 ≤ m / 65536 % 256
    · rw [if_pos hg]
      rcases hs with ⟨hs, hx, _⟩ | ⟨hs, hx⟩ <;> rw [hs] <;>
      refine ⟨by simp only [tv, toN, Bool.or_eq_true, Bool.and_eq_true, decide_eq_true_eq]; omega, by simp, fun _ => ⟨by simp, ?_⟩, fun hh => by omega⟩ <;>
      simp only [num4, toN] <;> split <;> omega
    · rw [if_neg hg]
      rcases hs with ⟨hs, hx, _⟩ | ⟨hs, hx⟩ <;> rw [hs] <;>
      refine ⟨by simp only [tv, toN, Bool.or_eq_true, Bool.and_eq_true, decide_eq_true_eq]; omega, by simp, fun _ => ⟨by simp, ?_⟩, fun hh => by omega⟩ <;>
      simp only [num4, toN] <;> split <;> omega
  by_cases c4 : m < 4294967296
  · rw [dig4 (by omega) c4, fin4, toN]
    by_cases hg : 128 ≤ m / 16777216 % 256
    · rw [if_pos hg]
      rcases hs with ⟨hs, hx, _⟩ | ⟨hs, hx⟩ <;> rw [hs] <;>
      exact ⟨by simp only [tv, toN, Bool.or_eq_true, Bool.and_eq_true, decide_eq_true_eq]; omega, by simp, fun hh => by omega, fun hh => by simp⟩
    · rw [if_neg hg]
      rcases hs with ⟨hs, hx, _⟩ | ⟨hs, hx⟩ <;> rw [hs] <;>
      refine ⟨by simp only [tv, toN, Bool.or_eq_true, Bool.and_eq_true, decide_eq_true_eq]; omega, by simp, fun _ => ⟨by simp, ?_⟩, fun hh => by omega⟩ <;>
      simp only [num4, toN] <;> split <;> omega
  · rw [dig5 (by omega) (by omega), fin5, toN]
    have hg : ¬ 128 ≤ m / 4294967296 % 256 := by omega
    rw [if_neg hg]
    rcases hs with ⟨hs, hx, _⟩ | ⟨hs, hx⟩ <;> rw [hs] <;>
    exact ⟨by simp only [tv, toN, Bool.or_eq_true, Bool.and_eq_true, decide_eq_true_eq]; omega, by simp, fun hh => by omega, fun hh => by simp⟩
/- Picked and rolled, plainly; the statement. -/
theorem enc_ok {x : Int} (h : encE x = 0) : -549755813888 < x ∧ x < 549755813888 ∧ encL x = fmB x := by
  unfold encE at h
  cases hw : wideB x with
  | true => rw [hw] at h; cases h
  | false =>
    unfold wideB at hw
    have := Bool.or_eq_false_iff.1 hw
    have a := of_decide_eq_false this.1
    have b := of_decide_eq_false this.2
    refine ⟨by omega, by omega, ?_⟩
    unfold encL wideB
    rw [this.1, this.2]; rfl
theorem enc_E {x : Int} : encE x = 0 ∨ encE x = 110 := by
  unfold encE
  cases wideB x
  · exact .inl rfl
  · exact .inr rfl
theorem dec_enc {x : Int} (h : encE x = 0) : (-2147483647 ≤ x ∧ x ≤ 2147483647 ∧ decE (encL x) = 0 ∧ decN (encL x) = x) ∨ (¬ (-2147483647 ≤ x ∧ x ≤ 2147483647) ∧ decE (encL x) = 110) := by
  obtain ⟨h1, h2, h3⟩ := enc_ok h
  obtain ⟨_, _, g3, g4⟩ := fm_all x h1 h2
  rw [h3]
  by_cases c : -2147483647 ≤ x ∧ x ≤ 2147483647
  · obtain ⟨a, b⟩ := g3 c
    have hB : decB (fmB x) = true := by
      unfold decB
      rw [b, decide_eq_true a, decide_eq_true rfl]; rfl
    refine .inl ⟨c.1, c.2, ?_, ?_⟩
    · unfold decE; rw [hB]
    · unfold decN; rw [hB]; exact b
  · have a := g4 c
    have hB : decB (fmB x) = false := by
      unfold decB
      rw [decide_eq_false (by omega)]; rfl
    refine .inr ⟨c, ?_⟩
    unfold decE; rw [hB]
theorem num_app {ls : List (List UInt8)} {b : List UInt8} : numE (ls ++ [b]) = decE b ∧ numV (ls ++ [b]) = decN b := by
  have ht : top (ls ++ [b]) = b := top_app
  exact ⟨by unfold numE; rw [if_neg (by simp), ht], by unfold numV; rw [if_neg (by simp), ht]⟩
theorem lvfar {c : Int} (h : c = 121 ∨ c = 122) : leastV c = 1 ∧ frm c = none ∧ ∀ ls os, doE c ls os = farE ls ∧ doL c ls os = farL (decide (c = 122)) ls ∧ doO c ls os = os := by
  rcases h with rfl | rfl
  · exact ⟨lv121, fr121, fun ls os => ⟨rfl, rfl, rfl⟩⟩
  · exact ⟨lv122, fr122, fun ls os => ⟨rfl, rfl, rfl⟩⟩
/-- Picked, or rolled, by a number that is none of an element. -/
theorem far_none {c : Int} (hc : c = 121 ∨ c = 122) {ls : List (List UInt8)} {x : Int} (hx : encE x = 0) (hn : ¬ (0 ≤ x ∧ x < ls.length)) : allL c (ls ++ [encL x]) [] = ls ++ [encL x] ∧ allE c (ls ++ [encL x]) [] = (if -2147483647 ≤ x ∧ x ≤ 2147483647 then 120 else 110) := by
  obtain ⟨l1, l2, l3⟩ := lvfar hc
  have hf : farE (ls ++ [encL x]) = if -2147483647 ≤ x ∧ x ≤ 2147483647 then 120 else 110 := by
    unfold farE
    rw [num_app.1, num_app.2]
    rcases dec_enc hx with ⟨a, b, e, v⟩ | ⟨a, e⟩
    · rw [if_pos e, v, pop_app, if_neg hn, if_pos ⟨a, b⟩]
    · rw [e, if_neg (by decide), if_neg a]
  have he : allE c (ls ++ [encL x]) [] = if -2147483647 ≤ x ∧ x ≤ 2147483647 then 120 else 110 := by
    unfold allE
    rw [l1, if_neg (by decide), if_neg (by rw [List.length_append, List.length_singleton]; omega), (l3 _ _).1, hf]
    split <;> rfl
  refine ⟨?_, he⟩
  unfold allL
  rw [he, if_neg (by split <;> decide)]
theorem far_some {c : Int} (hc : c = 121 ∨ c = 122) {ls : List (List UInt8)} {x : Int} (hx : encE x = 0) (h0 : 0 ≤ x) (h1 : x < ls.length) (hl : ls.length ≤ 60) :
    allE c (ls ++ [encL x]) [] = 0 ∧ allL c (ls ++ [encL x]) [] = (if c = 122 then outI ls (ls.length - 1 - x.toNat) else ls) ++ [ls.getD (ls.length - 1 - x.toNat) []] := by
  obtain ⟨l1, l2, l3⟩ := lvfar hc
  obtain ⟨e, v⟩ : decE (encL x) = 0 ∧ decN (encL x) = x := by
    rcases dec_enc hx with ⟨a, b, e, v⟩ | ⟨a, e⟩
    · exact ⟨e, v⟩
    · omega
  have hf : farE (ls ++ [encL x]) = 0 := by
    unfold farE
    rw [num_app.1, num_app.2, if_pos e, v, pop_app, if_pos ⟨h0, h1⟩]
  have hL : farL (decide (c = 122)) (ls ++ [encL x]) = (if c = 122 then outI ls (ls.length - 1 - x.toNat) else ls) ++ [ls.getD (ls.length - 1 - x.toNat) []] := by
    unfold farL
    rw [num_app.2, v, pop_app]
    have ht : topL ls x = ls.getD (ls.length - 1 - x.toNat) [] := by unfold topL; rw [if_pos ⟨h0, h1⟩]
    rw [ht]
    rcases hc with rfl | rfl <;> rfl
  have he : allE c (ls ++ [encL x]) [] = 0 := by
    unfold allE
    rw [l1, if_neg (by decide), if_neg (by rw [List.length_append, List.length_singleton]; omega), (l3 _ _).1, hf, if_pos rfl, (l3 _ _).2.1, (l3 _ _).2.2, hL, if_pos]
    rw [List.length_append, List.length_singleton, List.length_nil]
    split
    · unfold outI; rw [List.length_append, List.length_take, List.length_drop]; omega
    · omega
  refine ⟨he, ?_⟩
  unfold allL
  rw [if_pos he, (l3 _ _).2.1, hL]
theorem arg_roomy {v : AVal} {cnt : Nat} {xs : List AVal} {h : Hp} (hr : Rds h 1 v cnt xs) (hid : ownId v = none) : Roomy v := by
  cases hr <;> first | trivial | cases hid
theorem bs0 : buildSlice env 53 0 [] = (newRow env 22 []).bind fun id => M.pure (.sl id 0 0 (some 0) 1) := rfl
set_option maxHeartbeats 16000000 in
theorem law12 (v : AVal) (hv : Arg Try.prog 53 [v]) (x : Int) (wx : (Lit.int .i64 x).wf = true) : Wp (callI env (evalW env) 12 [v, .int .i64 x]) (fun _ => none) 0 fun v' _ _ => v' = .bool true := by
  obtain ⟨ls, xs, hl⟩ := argL hv
  have bx : -9223372036854775808 ≤ x ∧ x ≤ 9223372036854775807 := by
    simp only [Lit.wf, Bool.and_eq_true, decide_eq_true_eq] at wx
    exact wx
  refine wp_callI ff12 fi12 ?_
  have f0 : Free (fun _ => none) 0 := Free.none
  generalize (fun _ => none : Hp) = h0 at *
  have hml := hl.len
  have hmx : maxLen = 9223372036854775807 := by decide
  have hvn : ∀ {m : Nat} (j : Nat), ownId v = some j → j < m := fun j hj => by rw [hl.id] at hj; cases hj
  simp only [fu12, Try.f12, Option.getD_some, List.replicate, core1, fgr, hkr, execOp, opd, opds, ofValue, putT, put, forgetL, doCall, callV_func, ended, resultOf, oneOrTup, List.append_eq, List.cons_append, List.nil_append, List.append_nil, List.length_cons, List.length_nil, Nat.reduceAdd, Nat.reduceSub, Nat.zero_add, wp_pure]
  refine opv_callf f0 (f35 h0 0 f0) fun v1 h1 n1 hn1 f1 ⟨e1, o1⟩ => ?_
  subst e1
  by_cases hg1 : 60 < ls.length
  · have hc : 60 < ((ls.length : Nat) : Int) := by omega
    simp only [core1, fgr, execOp, opd, opds, ofValue, putT, put, nth, forgetL, doCall, builtin, one1, bor, binInt, shiftB, intOp, doPick, branch, List.getElem?_cons_succ, List.getElem?_cons_zero, gt_iff_lt, decide_true, and_self, (hl.rd h1).bLen u53, hc]
  have hc : ¬ 60 < ((ls.length : Nat) : Int) := by omega
  simp only [core1, fgr, hkr, execOp, opd, opds, ofValue, putT, put, nth, forgetL, doCall, callV_func, builtin, one1, bor, binInt, shiftB, intOp, List.getElem?_cons_succ, List.getElem?_cons_zero, List.nil_append, List.append_nil, gt_iff_lt, decide_true, decide_false, (hl.rd h1).bLen u53, hc]
  refine opv_same (f36 v xs ls (fun _ => False) h1 n1 (by omega) (hl.rd h1) (hl.el h1)) ?_
  cases hg : greatV ls with
  | true => simp only [core1, fgr, execOp, opd, ofValue, putT, put, nth, forgetL, doPick, branch, List.getElem?_cons_succ, List.getElem?_cons_zero, and_self]
  | false =>
  simp only [core1, fgr, hkr, execOp, opd, opds, ofValue, putT, put, nth, forgetL, doCall, callV_func, unOp, doPick, branch, List.getElem?_cons_succ, List.getElem?_cons_zero, List.nil_append, List.append_nil, Bool.not_true]
  refine opv_callf f1 (f37 v xs ls (fun _ => False) h1 n1 (by omega) (hl.rd h1) hvn (hl.el h1) (fun j hj => hj.elim) f1) fun v3 h3 n3 hn3 f3 ⟨o3, hh⟩ => ?_
  rcases hh with ⟨hne, e3⟩ | ⟨hne, p, e3, st⟩
  · subst e3
    have he := new120 hne (by omega)
    simp only [core1, fgr, hkr, execOp, opd, opds, putT, put, nth, forgetL, doCall, callV_func, extract, getO, List.getElem?_cons_succ, List.getElem?_cons_zero, List.nil_append, List.append_nil, he]
    refine opv_callf f3 (f37 v xs ls (fun _ => False) h3 n3 (by omega) (hl.rd h3) hvn (hl.el h3) (fun j hj => hj.elim) f3) fun v4 h4 n4 hn4 f4 ⟨o4, hh⟩ => ?_
    rcases hh with ⟨hne2, e4⟩ | ⟨hne2, _⟩
    · subst e4
      simp only [core1, fgr, hkr, execOp, opd, opds, putT, put, nth, forgetL, doCall, callV_func, extract, getO, List.getElem?_cons_succ, List.getElem?_cons_zero, List.nil_append, List.append_nil, he]
      refine opv_callf f4 (f17r x bx.1 bx.2 h4 n4) fun v5 h5 n5 hn5 f5 ⟨b, e5, mb⟩ => ?_
      subst e5
      simp only [core1, fgr, execOp, opd, ofValue, putT, put, nth, forgetL, bor, binInt, shiftB, intOp, doPick, branch, extract, getO, List.getElem?_cons_succ, List.getElem?_cons_zero, int_bne, Int.reduceEq, not_false_eq_true, decide_true, and_self]
    · exact absurd hne2 hne
  subst e3
  have ok0 := new_ok hne
  simp only [core1, fgr, hkr, execOp, opd, opds, putT, put, nth, forgetL, doCall, callV_func, extract, getO, List.getElem?_cons_succ, List.getElem?_cons_zero, List.nil_append, List.append_nil]
  refine opv_callf f3 (f37 v xs ls (fun _ => False) h3 n3 (by omega) (hl.rd h3) hvn (hl.el h3) (fun j hj => hj.elim) f3) fun v4 h4 n4 hn4 f4 ⟨o4, hh⟩ => ?_
  rcases hh with ⟨hne2, _⟩ | ⟨_, q, e4, st2⟩
  · exact absurd hne hne2
  subst e4
  obtain ⟨D, M, s, hd, hm⟩ := st
  obtain ⟨E, N, t, he, hn⟩ := st2
  have a1 : ∀ j, D j ∨ M j → j < n3 := fun j hj => hj.elim (fun w => (s.d j w).1) (fun w => (s.m j w).1)
  have s4 := s.old hn4 o4
  have a2 : ∀ j, E j ∨ N j → n3 ≤ j ∧ j < n4 := fun j hj => hj.elim (fun w => ⟨he j w, (t.d j w).1⟩) (fun w => ⟨hn j w, (t.m j w).1⟩)
  simp only [core1, fgr, hkr, execOp, opd, opds, putT, put, nth, forgetL, doCall, callV_func, extract, getO, List.getElem?_cons_succ, List.getElem?_cons_zero, List.nil_append, List.append_nil]
  refine opv_callf f4 (f17r x bx.1 bx.2 h4 n4) fun v5 h5 n5 hn5 f5 ⟨b, e5, b5, i5, o5⟩ => ?_
  subst e5
  rcases enc_E (x := x) with ec | ec
  case inr => simp only [core1, fgr, execOp, opd, ofValue, putT, put, nth, forgetL, bor, binInt, shiftB, intOp, doPick, branch, extract, getO, List.getElem?_cons_succ, List.getElem?_cons_zero, int_bne, Int.reduceEq, not_false_eq_true, decide_true, and_self, bne_self_eq_false, ec]
  have eln := encL_len x (by have := enc_ok ec; omega) (by omega)
  have s5 := s4.old hn5 o5
  have t5 := t.old hn5 o5
  have pz : pushE ls [] (encL x) = 0 := by
    rcases pushE_cases ls [] (encL x) with ⟨a, _⟩ | ⟨a, w, _⟩ | ⟨a, w, ce⟩
    · omega
    · rw [List.length_nil] at w; omega
    · exact ce
  have pl : pushL ls [] (encL x) = ls ++ [encL x] := by unfold pushL; rw [if_pos pz]
  simp only [core1, fgr, hkr, execOp, opd, opds, ofValue, putT, put, nth, forgetL, doCall, callV_func, bor, binInt, shiftB, intOp, doPick, branch, extract, getO, List.getElem?_cons_succ, List.getElem?_cons_zero, List.nil_append, List.append_nil, decide_true, bne_self_eq_false, ec]
  refine opv_callf f5 (f45 p b (encL x) ls [] D M h5 n5 s5 (by rw [List.length_nil]; omega) b5 f5) fun v6 h6 n6 hn6 f6 ⟨e6, D1, M1, s6, c6⟩ => ?_
  subst e6
  rw [pl] at s6
  have t6 := t5.beside hn6 fun j hj w => c6.old j hj (fun r => by have := a1 j (.inr r); have := a2 j w; omega)
  have b6 : Bytes h6 b (encL x) := b5.keep fun j hj => c6.old j (i5 j hj).2 (fun r => by have := a1 j (.inr r); have := (i5 j hj).1; omega)
  simp only [core1, hkr, execOp, opd, opds, ofValue, putT, put, nth, doCall, callV_func, bor, binInt, shiftB, intOp, doPick, branch, List.getElem?_cons_succ, List.getElem?_cons_zero, List.nil_append, List.append_nil, decide_true, bne_self_eq_false, pz]
  refine opv_callf f6 (f45 q b (encL x) ls [] E N h6 n6 t6 (by rw [List.length_nil]; omega) b6 f6) fun v7 h7 n7 hn7 f7 ⟨e7, E1, N1, t7, c7⟩ => ?_
  subst e7
  rw [pl] at t7
  have a3 : ∀ j, D1 j ∨ M1 j → j < n3 ∨ n5 ≤ j := fun j hj => hj.elim (fun w => (c6.d' j w).elim (fun w => .inl (a1 j (.inl w))) .inr) (fun w => (c6.m' j w).elim (fun w => .inl (a1 j (.inr w))) .inr)
  have a4 : ∀ j, E1 j ∨ N1 j → n3 ≤ j ∧ (j < n4 ∨ n6 ≤ j) := fun j hj => by
    rcases hj with w | w
    · rcases c7.d' j w with w | w
      · have := a2 j (.inl w); exact ⟨this.1, .inl this.2⟩
      · exact ⟨by omega, .inr w⟩
    · rcases c7.m' j w with w | w
      · have := a2 j (.inr w); exact ⟨this.1, .inl this.2⟩
      · exact ⟨by omega, .inr w⟩
  have a5 : ∀ j, D1 j ∨ M1 j → j < n6 := fun j hj => hj.elim (fun w => (s6.d j w).1) (fun w => (s6.m j w).1)
  have s7 := s6.beside hn7 fun j hj w => c7.old j hj (fun r => by have := a3 j w; have := a2 j (.inr r); omega)
  have lz : (ls ++ [encL x]).length ≤ 61 := by rw [List.length_append, List.length_singleton]; omega
  have ok7 : Ok (ls ++ [encL x]) [] := by rw [← pl]; exact push_ok ok0
  have hel7 : ∀ l ∈ ls ++ [encL x], l.length ≤ 900000 := fun l hl => by have := ok7.l l hl; omega
  simp only [core1, fgr, hkr, execOp, opd, opds, ofValue, putT, put, nth, forgetL, doCall, callV_func, bor, binInt, shiftB, intOp, doPick, branch, List.getElem?_cons_succ, List.getElem?_cons_zero, List.nil_append, List.append_nil, decide_true, bne_self_eq_false, pz]
  refine opv_callf f7 (f38 p 121 (ls ++ [encL x]) [] D1 M1 h7 n7 s7 (by omega) (by rw [List.length_nil]; omega) hel7 f7) fun v8 h8 n8 hn8 f8 ⟨e8, D2, M2, s8, c8⟩ => ?_
  subst e8
  have t8 := t7.beside hn8 fun j hj w => c8.old j hj (fun r => by have := a3 j (.inr r); have := a4 j w; have := a5 j (.inr r); omega)
  simp only [core1, hkr, execOp, opd, opds, ofValue, putT, put, nth, doCall, callV_func, List.nil_append, List.append_nil]
  refine opv_callf f8 (f38 q 122 (ls ++ [encL x]) [] E1 N1 h8 n8 t8 (by omega) (by rw [List.length_nil]; omega) hel7 f8) fun v9 h9 n9 hn9 f9 ⟨e9, E2, N2, t9, c9⟩ => ?_
  subst e9
  have a6 : ∀ j, D2 j ∨ M2 j → (j < n3 ∨ n5 ≤ j ∧ j < n6) ∨ n7 ≤ j := fun j hj => by
    rcases hj with w | w
    · rcases c8.d' j w with w | w
      · have := a3 j (.inl w); have := a5 j (.inl w); omega
      · exact .inr w
    · rcases c8.m' j w with w | w
      · have := a3 j (.inr w); have := a5 j (.inr w); omega
      · exact .inr w
  have a7 : ∀ j, E1 j ∨ N1 j → j < n7 := fun j hj => hj.elim (fun w => (t7.d j w).1) (fun w => (t7.m j w).1)
  have s9 := s8.beside hn9 fun j hj w => c9.old j hj (fun r => by have := a6 j w; have := a4 j (.inr r); have := a7 j (.inr r); omega)
  by_cases hx : 0 ≤ x ∧ x < ls.length
  case neg =>
    obtain ⟨k1, k2⟩ := far_none (c := 121) (.inl rfl) ec hx
    obtain ⟨k3, k4⟩ := far_none (c := 122) (.inr rfl) ec hx
    rw [k1] at s9
    have w1 : IntKind.i64.wrap (((ls.length : Nat) : Int) + 1) = ((ls.length + 1 : Nat) : Int) := by rw [w64 (by omega) (by omega)]; omega
    have hz : (if -2147483647 ≤ x ∧ x ≤ 2147483647 then (120 : Int) else 110) = 120 ∨ (if -2147483647 ≤ x ∧ x ≤ 2147483647 then (120 : Int) else 110) = 110 := by split <;> simp
    generalize (if -2147483647 ≤ x ∧ x ≤ 2147483647 then (120 : Int) else 110) = z at *
    by_cases h0x : x < 0
    · rcases hz with rfl | rfl
      all_goals
        simp only [core1, fgr, hkr, execOp, opd, opds, ofValue, putT, put, nth, forgetL, doCall, callV_func, bor, binInt, shiftB, intOp, doPick, branch, List.getElem?_cons_succ, List.getElem?_cons_zero, List.nil_append, List.append_nil, int_beq, Int.reduceEq, decide_true, decide_false, beq_self_eq_true, h0x, k2, k4]
        refine opv_callf f9 (f42 p _ _ D2 M2 h9 n9 s9 f9) fun v10 h10 n10 hn10 f10 ⟨e10, o10⟩ => ?_
        subst e10
        simp only [core1, fgr, execOp, opd, opds, ofValue, putT, put, nth, forgetL, doCall, builtin, one1, bor, binInt, shiftB, intOp, wrapI, doPick, branch, List.getElem?_cons_succ, List.getElem?_cons_zero, List.length_cons, List.length_nil, decide_true, and_self, Nat.zero_add, beq_self_eq_true, (hl.rd h10).bLen u53, w1, List.length_append]
    · have h1x : ((ls.length : Nat) : Int) ≤ x := by omega
      rcases hz with rfl | rfl
      all_goals
        simp only [core1, fgr, hkr, execOp, opd, opds, ofValue, putT, put, nth, forgetL, doCall, callV_func, builtin, one1, bor, binInt, shiftB, intOp, doPick, branch, List.getElem?_cons_succ, List.getElem?_cons_zero, List.nil_append, List.append_nil, int_beq, Int.reduceEq, ge_iff_le, decide_true, decide_false, beq_self_eq_true, h0x, h1x, (hl.rd h9).bLen u53, k2, k4]
        refine opv_callf f9 (f42 p _ _ D2 M2 h9 n9 s9 f9) fun v10 h10 n10 hn10 f10 ⟨e10, o10⟩ => ?_
        subst e10
        simp only [core1, fgr, execOp, opd, opds, ofValue, putT, put, nth, forgetL, doCall, builtin, one1, bor, binInt, shiftB, intOp, wrapI, doPick, branch, List.getElem?_cons_succ, List.getElem?_cons_zero, List.length_cons, List.length_nil, decide_true, and_self, Nat.zero_add, beq_self_eq_true, (hl.rd h10).bLen u53, w1, List.length_append]
  obtain ⟨hx0, hx1⟩ := hx
  obtain ⟨k2, k1⟩ := far_some (c := 121) (.inl rfl) ec hx0 hx1 (by omega)
  obtain ⟨k4, k3⟩ := far_some (c := 122) (.inr rfl) ec hx0 hx1 (by omega)
  have o8 : allO 121 (ls ++ [encL x]) [] = [] := by unfold allO; rw [if_pos k2]; rfl
  have o9' : allO 122 (ls ++ [encL x]) [] = [] := by unfold allO; rw [if_pos k4]; rfl
  rw [k1, if_neg (by decide), o8] at s9
  rw [k3, if_pos rfl, o9'] at t9
  obtain ⟨m, rfl⟩ : ∃ m : Nat, x = (m : Nat) := ⟨x.toNat, by omega⟩
  rw [Int.toNat_natCast] at s9 t9
  have hml2 : m < ls.length := by omega
  have hat : ls.length - 1 - m < ls.length := by omega
  generalize hAt : ls.length - 1 - m = at_ at *
  have hgd : ls.getD at_ [] = ls[at_] := by rw [List.getD_eq_getElem?_getD, List.getElem?_eq_getElem hat]; rfl
  rw [hgd] at s9 t9
  have c0x : ¬ ((m : Nat) : Int) < 0 := by omega
  have c1x : ¬ ((ls.length : Nat) : Int) ≤ ((m : Nat) : Int) := by omega
  have w1 : IntKind.i64.wrap (((ls.length : Nat) : Int) - 1) = ((ls.length - 1 : Nat) : Int) := by rw [w64 (by omega) (by omega)]; omega
  have w2 : IntKind.i64.wrap (((ls.length - 1 : Nat) : Int) - ((m : Nat) : Int)) = ((at_ : Nat) : Int) := by rw [w64 (by omega) (by omega)]; omega
  have w3 : IntKind.i64.wrap (((at_ : Nat) : Int) + 1) = ((at_ + 1 : Nat) : Int) := by rw [w64 (by omega) (by omega)]; omega
  simp only [core1, fgr, execOp, opd, opds, ofValue, putT, put, nth, forgetL, doCall, builtin, one1, bor, binInt, shiftB, intOp, wrapI, doPick, branch, List.getElem?_cons_succ, List.getElem?_cons_zero, ge_iff_le, decide_true, decide_false, c0x, c1x, (hl.rd h9).bLen u53, w1, w2]
  have hrid : rid v = [] := by unfold rid; rw [hl.id]; rfl
  have hxo := (hl.el h9).cells
  refine run_draw.2 ⟨rfl, ?_⟩
  simp only [fe_cons, execOp, ops2]
  rw [bs0]
  refine fev_row' ti22 f9 fun h10 g10 o10 f10 => ?_
  simp only [fe_cons, fev_pure, execOp, opd, opds, putT, put, nth, doCall, builtin, two2, Nat.reduceAdd, Nat.zero_add]
  have f10x := f10
  refine fev_in (fun j => decide (j = n9)) f10 (Q0 := fun v' h' n' => Lst h' 22 1 v' (0 + ls.length) ([] ++ xs) ∧ (ownId v' = some n9 ∨ ownId v' = some (n9 + 1) ∧ n9 + 1 < n')) ?_ fun v11 h11 n11 r11 w11 z11 hn11 f11 ⟨l11, i11⟩ a11 b11 cr11 cw11 => ?_
  · refine wp_lst_append (i := ⟨.slice 5, 1, 24, .nils⟩) (e := 22) (cnt := 0) (xs := []) (lst_new (by rw [only_in (decide_eq_true rfl)]; exact g10) rfl (fun k hk => by injection hk with hk; exact hk.symm)) (hl.rd _) u53 u53 ti22 hxo (by decide) (by show 2 * (0 + ls.length) * 24 ≤ _; omega) (by omega) f10.only ?_
    intro v' h' n' hn' hf' hl' hid' _
    exact ⟨hl', hid'⟩
  have l11 : Lst h11 22 1 v11 ls.length xs := by
    rw [List.nil_append, Nat.zero_add] at l11
    exact l11.keep fun j hj => by
      rcases i11 with w | ⟨w, _⟩
      · rw [w] at hj; injection hj with hj; subst hj; exact a11 _ (.inl (decide_eq_true rfl))
      · rw [w] at hj; injection hj with hj; exact a11 j (.inr (by omega))
  have i11n : ∀ j, ownId v11 = some j → n9 ≤ j ∧ j < n11 := fun j hj => by
    rcases i11 with w | ⟨w, w2⟩
    · rw [w] at hj; injection hj with hj; omega
    · rw [w] at hj; injection hj with hj; omega
  have cr : ∀ id, id ∈ r11 → id < n11 ∨ n11 + 1 ≤ id := fun id hid => by have := of_decide_eq_true (cr11 id hid); omega
  have cw : ∀ id, id ∈ w11 → id < n11 ∨ n11 + 1 ≤ id := fun id hid => by have := of_decide_eq_true (cw11 id hid); omega
  have o11 : Old h9 h11 n9 := fun j hj => by rw [b11 j (by omega) (decide_eq_false (by omega)), o10 j (by omega)]
  obtain ⟨y, hy1, hy2⟩ := (hl.el h11).get hat
  simp only [fe_cons, fev_pure, execOp, opd, putT, put, nth, Nat.reduceAdd]
  rw [fev_rd ((hl.rd h11).idx (j := at_) u53 s22 rfl hat)]
  simp only [fe_cons, execOp, opd, putT, put, nth, Nat.reduceAdd, Nat.mul_one]
  rw [fev_rd ((hl.rd h11).load (k := at_) ti22 rfl hy1), hrid]
  simp only [fe_cons, execOp, opd, ops2, putT, put, nth, Nat.reduceAdd]
  rw [bs22 y hy2.1.kind]
  refine fev_row' ti22 f11 fun h12 g12 o12 f12 => ?_
  have l12 : Lst h12 22 1 v11 ls.length xs := l11.keep fun j hj => o12 j (by have := (i11n j hj).2; omega)
  simp only [fe_cons, execOp, opd, opds, putT, put, nth, doCall, builtin, two2, Nat.reduceAdd]
  refine fev_any f12 (Q1 := fun v' h' n' => Lst h' 22 1 v' (ls.length + 1) (xs ++ [y]) ∧ (∀ j, ownId v' = some j → n9 ≤ j ∧ j < n') ∧ Old h9 h' n9) ?_ fun v13 h13 n13 r13 w13 hn13 f13 ⟨l13, i13, o13⟩ => ?_
  · refine wp_lst_append (i := ⟨.slice 5, 1, 24, .nils⟩) (e := 22) (k := 1) (ys := [y]) l12 (row_rds g12 rfl) u53 u53 ti22 (by simp [hy2.1.kind.2.1]) (by decide) (by show 2 * (ls.length + 1) * 24 ≤ _; omega) (by omega) f12 ?_
    intro v' h' n' hn' hf' hl' hid' ho'
    refine ⟨hl', fun j hj => ?_, fun j hj => ?_⟩
    · rcases hid' with w | ⟨w, w2⟩
      · rw [w] at hj; have := i11n j hj; omega
      · rw [w] at hj; injection hj with hj; omega
    · rw [ho' j (by omega) (fun w => by have := i11n j w; omega), o12 j (by omega), o11 j hj]
  simp only [fe_nil, fe_cons, fev_pure, core1, fgr, execOp, opd, putT, put, nth, forgetL, Nat.reduceAdd]
  refine ⟨(by (try simp (disch := first | assumption | omega) only [fine, List.all_cons, List.all_nil, clash_pl, clash_pr, Bool.not_false, Bool.true_or, Bool.and_true, Bool.true_and, clash_nn, clash_sn]); repeat' (first | rfl | exact (Bool.or_eq_true _ _).mpr (.inr rfl) | refine (Bool.and_eq_true _ _).mpr ⟨?_, ?_⟩)), ?_⟩
  -- the rest
  have eW : ∀ H, Els H (fun _ => False) (xs ++ [y]) (ls ++ [ls[at_]]) := fun H => (hl.el H).app (Els.one (by
    obtain ⟨y', hy1', hy2'⟩ := (hl.el H).get hat
    rw [hy1] at hy1'
    injection hy1' with w
    rw [w]; exact hy2'))
  have hxl := (hl.el h9).len
  refine run_draw.2 ⟨rfl, ?_⟩
  simp only [fe_cons, execOp, ops2]
  rw [bs0]
  refine fev_row' ti22 f13 fun h14 g14 o14 f14 => ?_
  have hsubl := (hl.rd h14).sub (lo := 0) (hi := at_) (by omega) (by omega)
  rw [Nat.zero_mul, List.drop_zero, Nat.sub_zero, Nat.mul_one] at hsubl
  simp only [fe_cons, fev_pure, execOp, opd, opt, putT, put, nth, Nat.reduceAdd, Nat.zero_add]
  rw [fev_rd ((hl.rd h14).head_rd (arg_roomy (hl.rd h14) hl.id) u53 s22 rfl (by omega))]
  simp only [fe_cons, execOp, opd, opds, putT, put, nth, doCall, builtin, two2, Nat.reduceAdd]
  refine fev_any f14 (Q1 := fun v' h' n' => Lst h' 22 1 v' (0 + at_) ([] ++ xs.take at_) ∧ (∀ j, ownId v' = some j → n13 ≤ j ∧ j < n') ∧ Old h13 h' n13) ?_ fun v15 h15 n15 r15 w15 hn15 f15 ⟨l15, i15, o15⟩ => ?_
  · refine wp_lst_append (i := ⟨.slice 5, 1, 24, .nils⟩) (e := 22) (cnt := 0) (xs := []) (lst_new g14 rfl (fun k hk => by injection hk with hk; exact hk.symm)) hsubl u53 u53 ti22 ((hl.el h9).take at_).cells (by decide) (by show 2 * (0 + at_) * 24 ≤ _; omega) (by omega) f14 ?_
    intro v' h' n' hn' hf' hl' hid' ho'
    refine ⟨hl', fun j hj => ?_, fun j hj => ?_⟩
    · rcases hid' with w | ⟨w, w2⟩
      · rw [w] at hj; injection hj with hj; omega
      · rw [w] at hj; injection hj with hj; omega
    · rw [ho' j (by omega) (fun w => by injection w with w; omega), o14 j (by omega)]
  rw [List.nil_append, Nat.zero_add] at l15
  have l13' : Lst h15 22 1 v13 (ls.length + 1) (xs ++ [y]) := l13.keep fun j hj => o15 j (i13 j hj).2
  simp only [fe_cons, fev_pure, execOp, opd, opt, ofValue, putT, put, nth, bor, binInt, shiftB, intOp, wrapI, Nat.reduceAdd, decide_true, w3]
  rw [fev_rd (l13'.rds.tail_rd u53 s22 rfl (by omega))]
  have hsub2 := l13'.rds.sub (lo := at_ + 1) (hi := ls.length + 1) (by omega) (Nat.le_refl _)
  rw [Nat.mul_one, Nat.mul_one, List.take_of_length_le (by rw [List.length_drop, List.length_append, List.length_singleton]; omega)] at hsub2
  simp only [fe_cons, execOp, opd, opds, putT, put, nth, doCall, builtin, two2, Nat.reduceAdd]
  refine fev_any f15 (Q1 := fun v' h' n' => Lst h' 22 1 v' (at_ + (ls.length + 1 - (at_ + 1))) (xs.take at_ ++ (xs ++ [y]).drop (at_ + 1)) ∧ Old h13 h' n13) ?_ fun v17 h17 n17 r17 w17 hn17 f17 ⟨l17, o17⟩ => ?_
  · refine wp_lst_append (i := ⟨.slice 5, 1, 24, .nils⟩) (e := 22) l15 hsub2 u53 u53 ti22 ((eW h9).drop (at_ + 1)).cells (by decide) (by show 2 * (at_ + (ls.length + 1 - (at_ + 1))) * 24 ≤ _; omega) (by omega) f15 ?_
    intro v' h' n' hn' hf' hl' hid' ho'
    exact ⟨hl', fun j hj => by rw [ho' j (by omega) (fun w => by have := (i15 j w).1; omega), o15 j hj]⟩
  simp only [fe_nil, fe_cons, fev_pure, core1, fgr, execOp, opd, ofValue, putT, put, nth, forgetL, bor, binInt, shiftB, intOp, doPick, branch, List.getElem?_cons_succ, List.getElem?_cons_zero, Nat.reduceAdd, int_beq, decide_true]
  refine ⟨(by (try simp (disch := first | assumption | omega) only [fine, List.all_cons, List.all_nil, clash_pl, clash_pr, Bool.not_false, Bool.true_or, Bool.and_true, Bool.true_and]); repeat' (first | rfl | exact (Bool.or_eq_true _ _).mpr (.inr rfl) | refine (Bool.and_eq_true _ _).mpr ⟨?_, ?_⟩)), ?_⟩
  have eR : ∀ H, Els H (fun _ => False) (xs.take at_ ++ (xs ++ [y]).drop (at_ + 1)) (ls.take at_ ++ (ls ++ [ls[at_]]).drop (at_ + 1)) := fun H => ((hl.el H).take at_).app ((eW H).drop (at_ + 1))
  have hrest : ls.take at_ ++ (ls ++ [ls[at_]]).drop (at_ + 1) = outI ls at_ ++ [ls[at_]] := by
    unfold outI
    rw [List.drop_append_of_le_length (by omega), List.append_assoc]
  rw [hrest] at eR
  have hrl : (outI ls at_ ++ [ls[at_]]).length = at_ + (ls.length + 1 - (at_ + 1)) := by
    rw [← hrest, List.length_append, List.length_take, List.length_drop, List.length_append, List.length_singleton]; omega
  have old17 : Old h9 h17 n9 := fun j hj => by rw [o17 j (by omega), o13 j hj]
  have s17 := s9.old (n' := n17) (by omega) old17
  have t17 := t9.old (n' := n17) (by omega) old17
  have l13'' : Lst h17 22 1 v13 (ls.length + 1) (xs ++ [y]) := l13.keep fun j hj => o17 j (i13 j hj).2
  have okL : ∀ l ∈ ls, l.length ≤ 520 := ok0.l
  have okW : ∀ l ∈ ls ++ [ls[at_]], l.length ≤ 1000000 := fun l hl => by
    rcases List.mem_append.1 hl with w | w
    · have := okL l w; omega
    · rw [List.mem_singleton] at w; rw [w]; have := okL _ (List.getElem_mem hat); omega
  have okR : ∀ l ∈ outI ls at_ ++ [ls[at_]], l.length ≤ 1000000 := fun l hl => by
    rw [← hrest] at hl
    rcases List.mem_append.1 hl with w | w
    · have := okL l (List.mem_of_mem_take w); omega
    · exact okW l (List.mem_of_mem_drop w)
  have wl : (ls ++ [ls[at_]]).length = ls.length + 1 := by simp
  simp only [core1, hkr, execOp, opd, opds, ofValue, putT, put, nth, doCall, callV_func, bor, binInt, shiftB, intOp, doPick, branch, List.getElem?_cons_succ, List.getElem?_cons_zero, List.nil_append, List.append_nil, decide_true, beq_self_eq_true, k2, k4]
  refine opv_callf f17 (f40 p _ _ D2 M2 h17 n17 s17 (by omega) okW f17) fun v18 h18 n18 hn18 f18 ⟨ys, D18, l18, el18, _, _, _, o18⟩ => ?_
  simp only [core1, hkr, execOp, opd, opds, putT, put, nth, doCall, callV_func, List.getElem?_cons_succ, List.getElem?_cons_zero, List.nil_append, List.append_nil]
  have l13c : Lst h18 22 1 v13 (ls ++ [ls[at_]]).length (xs ++ [y]) := by rw [wl]; exact l13''.keep fun j hj => o18 j (by have := (i13 j hj).2; omega)
  refine opv_same (f39 v18 v13 ys (xs ++ [y]) (ls ++ [ls[at_]]) (ls ++ [ls[at_]]) D18 (fun _ => False) h18 n18 (by omega) l18.rds l13c.rds el18 (eW h18) okW okW f18) ?_
  have t18 := t17.old hn18 o18
  simp only [core1, hkr, execOp, opd, opds, ofValue, putT, put, nth, doCall, callV_func, doPick, branch, List.getElem?_cons_succ, List.getElem?_cons_zero, List.nil_append, List.append_nil, decide_true]
  refine opv_callf f18 (f40 q _ _ E2 N2 h18 n18 t18 (by omega) okR f18) fun v19 h19 n19 hn19 f19 ⟨zs, D19, l19, el19, _, _, _, o19⟩ => ?_
  simp only [core1, hkr, execOp, opd, opds, putT, put, nth, doCall, callV_func, List.getElem?_cons_succ, List.getElem?_cons_zero, List.nil_append, List.append_nil]
  have i17 : ∀ j, ownId v17 = some j → j < n17 := fun j hj => l17.live f17 hj
  have l17c : Lst h19 22 1 v17 (outI ls at_ ++ [ls[at_]]).length (xs.take at_ ++ (xs ++ [y]).drop (at_ + 1)) := by
    rw [hrl]; exact l17.keep fun j hj => (o19 j (by have := i17 j hj; omega)).trans (o18 j (i17 j hj))
  refine opv_same (f39 v19 v17 zs _ (outI ls at_ ++ [ls[at_]]) (outI ls at_ ++ [ls[at_]]) D19 (fun _ => False) h19 n19 (by omega) l19.rds l17c.rds el19 (eR h19) okR okR f19) ?_
  simp only [core1, fgr, execOp, opd, ofValue, putT, put, nth, forgetL, doPick, branch, decide_true, and_self]
end Go.Am.Ytmoplhbncjicbaa
