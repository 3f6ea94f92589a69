/- What the statement reaches, gone through; and the abstract machine that goes through it. -/
import Derived.Test.YtmoplhbncjicbaaGD
set_option linter.unusedSimpArgs false
set_option linter.unusedVariables false
set_option linter.defProp false
set_option maxRecDepth 10000
namespace Go.Am.Ytmoplhbncjicbaa
open Go Go.Am Go.Proofs
set_option maxHeartbeats 8000000 in
theorem f69 (p : Nat) (c : Int) (ls os : List (List UInt8)) (D M : Nat → Prop) (h : Hp) (n : Nat) (hs : Stk h n D M p ls os) (hl : ls.length ≤ 5000) (hol : os.length ≤ 5000) (hel : ∀ l ∈ ls, l.length ≤ 900000) (h0 : 0 ≤ leastV c) (h1 : leastV c ≤ (ls.length : Nat)) (hf : Free h n) :
    Wp (callI env (evalW env) 69 [.ptr p 0, .int .u8 c]) h n (DoPost c ls os D M p h n) := by
  refine wp_callI ff69 fi69 ?_
  simp only [fu69, Try.f69, Option.getD_some, List.replicate, fgr, hkr, Nat.reduceAdd, Nat.reduceSub, gE]
  refine opv_callf hf (f100 c h n hf) fun v1 g1 n1 hn1 f1 ⟨s, e1, r1, i1, o1⟩ => ?_
  subst e1
  have s1 := hs.old hn1 o1
  cases hfm : frm c with
  | some x =>
    have hif : isF c = true := by unfold isF; rw [hfm]; rfl
    have hix : idxs c = x.2 := by unfold idxs; rw [hfm]
    have hlv : leastV c = (x.1 : Nat) := by unfold leastV; rw [hfm]
    have hE : doE c ls os = 0 := by unfold doE; rw [hfm]
    have hL : doL c ls os = ls.take (ls.length - x.1) ++ pickL (ls.drop (ls.length - x.1)) x.2 := by unfold doL; rw [hfm]
    have hO : doO c ls os = os := by unfold doO; rw [hfm]
    obtain ⟨k1, k2, k3⟩ := frm_ok hfm
    rw [hix] at r1
    simp only [fgr, hif, gE]
    refine run_draw ⟨rfl, ?_⟩
    simp only [tyr, hkr, moved, Nat.reduceAdd, gE]
    refine fev_any f1 (f67 g1 n1 c) fun v2 g2 n2 r2 w2 hn2 f2 ⟨e2, e3, e4⟩ => ?_
    subst e2; subst e3; subst e4
    simp only [hkr, Nat.reduceAdd, hlv, gE]
    refine fev_any f2 (cut0 p x.1 ls os D M g2 n2 s1 (by omega) (by omega) f2) fun v3 g3 n3 r3 w3 hn3 f3 ⟨ys, l3, el3, i3, s3, c3⟩ => ?_
    simp only [fgr, builtin, Nat.reduceAdd, gE]
    refine ⟨(by (try simp (disch := first | assumption | omega) only [fine, gF]); repeat' (first | rfl | exact (Bool.or_eq_true _ _).mpr (.inr rfl) | refine (Bool.and_eq_true _ _).mpr ⟨?_, ?_⟩)), ?_⟩
    have hdl : (ls.drop (ls.length - x.1)).length = x.1 := by rw [List.length_drop]; omega
    have r3' : Rds g3 1 s x.2.length (x.2.map iN) := r1.keep fun j hj => c3.old j (by
      cases s with
      | sl id off len cap sz =>
        injection hj with hj; subst hj
        cases r1 with
        | sl id off cnt cap c e xs hh hl hs hc =>
          by_cases q : id < n2
          · exact q
          · rw [f1 id (by omega)] at hh; cases hh
      | _ => cases hj) (fun q => by have := i1 j hj; have := (hs.m j q).1; omega)
    have hsn : ∀ j, ownId s = some j → j < n3 ∧ ¬ M j := fun j hj => by
      have h5 := i1 j hj
      refine ⟨?_, fun q => by have := (hs.m j q).1; omega⟩
      cases s with
      | sl id off len cap sz =>
        injection hj with hj; subst hj
        cases r3' with
        | sl id off cnt cap c e xs hh hl hs hc =>
          by_cases q : id < n3
          · exact q
          · rw [f3 id (by omega)] at hh; cases hh
      | _ => cases hj
    simp only [fgr, r3'.bLen u114, gE]
    refine loop69 _ _ p x.1 n x.2 s v3 (.int .u8 c) ys (ls.take (ls.length - x.1)) (ls.drop (ls.length - x.1)) os D M h (fun i hi => by rw [hdl]; exact k1 i hi) (by rw [List.length_take]; omega) ?_ x.2.length 0 g3 n3 M _ _ _ _ _ _ _ _ _ _ _ (by omega) (by rw [List.take_zero]; unfold pickL; rw [List.map_nil, List.append_nil]; exact s3) r3' (by rw [hdl]; exact l3.rds) el3 hsn (fun j hj => ⟨(i3 j hj).2, fun q => by have := (i3 j hj).1; have := (s1.m j q).1; omega⟩) ((Ch2.of f1 hn1 o1).trans c3) f3
    intro g4 n4 M4 x9 x15 x24 x25 x38 x43 x53 x59 x68 x74 x84 x92 s4 c4
    simp only [fgr, gE]
    refine ⟨by rw [hE], D, M4, c4.chg (fun _ q => q) (fun _ q => .inl q), fun _ => ?_⟩
    rw [hL, hO]; exact s4
  | none =>
    have hif : isF c = false := by unfold isF; rw [hfm]; rfl
    have hE0 : doE c ls os = if c = 107 then 0 else if c = 108 then (if os = [] then 120 else 0) else if c = 115 then 0 else if c = 116 then 0 else if c = 130 then 0 else farE ls := by unfold doE; rw [hfm]
    have hL0 : doL c ls os = if c = 107 then popL ls else if c = 108 then ls ++ [top os] else if c = 115 then (if tv (top ls) = true then ls ++ [top ls] else ls) else if c = 116 then ls ++ [encL (ls.length : Nat)] else if c = 130 then ls ++ [encL ((top ls).length : Nat)] else farL (decide (c = 122)) ls := by unfold doL; rw [hfm]
    have hO0 : doO c ls os = if c = 107 then os ++ [top ls] else if c = 108 then popL os else os := by unfold doO; rw [hfm]
    have c01 : Ch2 h n M g1 n1 M := .of f1 hn1 o1
    have htl : (top ls).length ≤ 900000 := top_len hel 0
    by_cases e107 : c = 107
    · subst e107
      have lv : leastV 107 = 1 := lv107
      have hne : ls ≠ [] := fun q => by subst q; rw [lv] at h1; simp at h1
      have hp := List.length_pos_iff.2 hne
      rw [if_pos rfl] at hE0 hL0 hO0
      simp only [fgr, bor, hif, gE]
      refine run_draw ⟨rfl, ?_⟩
      simp only [tyr, hkr, moved, Nat.reduceAdd, gE]
      refine fev_any f1 (cut0 p 1 ls os D M g1 n1 s1 (by omega) (by omega) f1) fun v3 g3 n3 r3 w3 hn3 f3 ⟨ys, l3, el3, i3, s3, c3⟩ => ?_
      rw [drop_last hne] at el3
      simp only [hkr, Nat.reduceAdd, gE]
      refine fev_any f3 (put1 p 1 v3 ys [top ls] _ os D M D g3 n3 s3 l3.rds el3 s3.d (by omega) f3) fun v4 g4 n4 r4 w4 hn4 f4 ⟨e4, M', s4, c4⟩ => ?_
      subst e4
      simp only [fgr, Nat.reduceAdd, gE]
      refine ⟨(by (try simp (disch := first | assumption | omega) only [fine, gF]); repeat' (first | rfl | exact (Bool.or_eq_true _ _).mpr (.inr rfl) | refine (Bool.and_eq_true _ _).mpr ⟨?_, ?_⟩)), ?_⟩
      refine ⟨by rw [hE0], D, M', ((c01.trans c3).trans c4).chg (fun _ q => q) (fun _ q => .inl q), fun _ => ?_⟩
      rw [hL0, hO0]
      exact s4.same or_idem
    rw [if_neg e107] at hE0 hL0 hO0
    by_cases e108 : c = 108
    · subst e108
      rw [if_pos rfl] at hE0 hL0 hO0
      simp only [tyr, fgr, hkr, bor, moved, Int.reduceEq, hif, gE]
      obtain ⟨vl, vo, xl, xo, sv, mp, ml, mo, mn⟩ := s1
      refine opv_same (f66 p 1 vo [vl, vo] os.length xo g1 n1 sv.row rfl sv.o.rds) ?_
      by_cases hos : os = []
      · subst hos
        rw [if_pos rfl] at hE0
        simp only [fgr, bor, Int.cast_ofNat_Int, gE]
        exact ⟨by rw [hE0], D, M, c01.chg (fun _ q => q) (fun _ q => .inl q), fun q => by rw [hE0] at q; cases q⟩
      rw [if_neg hos] at hE0
      have hp := List.length_pos_iff.2 hos
      have hne : ¬ ((os.length : Nat) : Int) = 0 := by omega
      simp only [fgr, bor, hne, gE]
      refine run_draw ⟨rfl, ?_⟩
      simp only [tyr, hkr, moved, Nat.reduceAdd, gE]
      refine fev_any f1 (cut1 p 1 ls os D M g1 n1 ⟨vl, vo, xl, xo, sv, mp, ml, mo, mn⟩ (by omega) (by omega) f1) fun v3 g3 n3 r3 w3 hn3 f3 ⟨ys, l3, el3, i3, s3, c3⟩ => ?_
      rw [drop_last hos] at el3
      simp only [hkr, Nat.reduceAdd, gE]
      refine fev_any f3 (put0 p 1 v3 ys [top os] ls _ D M D g3 n3 s3 l3.rds el3 s3.d (by omega) f3) fun v4 g4 n4 r4 w4 hn4 f4 ⟨e4, M', s4, c4⟩ => ?_
      subst e4
      simp only [fgr, Nat.reduceAdd, gE]
      refine ⟨(by (try simp (disch := first | assumption | omega) only [fine, gF]); repeat' (first | rfl | exact (Bool.or_eq_true _ _).mpr (.inr rfl) | refine (Bool.and_eq_true _ _).mpr ⟨?_, ?_⟩)), ?_⟩
      refine ⟨by rw [hE0], D, M', ((c01.trans c3).trans c4).chg (fun _ q => q) (fun _ q => .inl q), fun _ => ?_⟩
      rw [hL0, hO0]
      exact s4.same or_idem
    rw [if_neg e108] at hE0 hL0 hO0
    by_cases e115 : c = 115
    · subst e115
      have lv : leastV 115 = 1 := lv115
      have hne : ls ≠ [] := fun q => by subst q; rw [lv] at h1; simp at h1
      have hp := List.length_pos_iff.2 hne
      rw [if_pos rfl] at hE0 hL0
      simp only [tyr, fgr, hkr, bor, moved, Int.reduceEq, hif, gE]
      obtain ⟨vl, vo, xl, xo, sv, mp, ml, mo, mn⟩ := s1
      obtain ⟨x, hx1, hx2⟩ := elt sv.le hne
      refine opv_callf f1 (f71 p 0 0 ls.length vl x [vl, vo] xl g1 n1 sv.row rfl sv.l.rds hp (by omega) hx1 hx2.1.kind sv.pn (fun j hj => (mn j (ml j hj)).1) f1) fun v3 g3 n3 hn3 f3 ⟨e3, o3⟩ => ?_
      subst e3
      have s3 : Stk g3 n3 D M p ls os := Stk.old ⟨vl, vo, xl, xo, sv, mp, ml, mo, mn⟩ hn3 o3
      have hb3 : Bytes g3 v3 (top ls) := hx2.1.keep fun j hj => o3 j (sv.dn j (hx2.2 j hj))
      have c03 : Ch2 h n M g3 n3 M := c01.trans (.of f3 hn3 o3)
      simp only [hkr, gE]
      refine opv_same (f19 v3 (top ls) g3 n3 hb3 (by omega)) ?_
      cases htv : tv (top ls) with
      | false =>
        rw [htv, if_neg (by decide)] at hL0
        simp only [fgr, gE]
        refine ⟨by rw [hE0], D, M, c03.chg (fun _ q => q) (fun _ q => .inl q), fun _ => ?_⟩
        rw [hL0, hO0]; exact s3
      | true =>
        rw [htv, if_pos rfl] at hL0
        simp only [core1, fgr, opd, putT, put, nth, forgetL]
        refine run_draw ⟨rfl, ?_⟩
        simp only [tyr, hkr, moved, Nat.reduceAdd, gE]
        obtain ⟨vl, vo, xl, xo, sv, mp, ml, mo, mn⟩ := s3
        obtain ⟨x, hx1, hx2⟩ := elt sv.le hne
        refine fev_any f3 (f71 p 0 0 ls.length vl x [vl, vo] xl g3 n3 sv.row rfl sv.l.rds hp (by omega) hx1 hx2.1.kind sv.pn (fun j hj => (mn j (ml j hj)).1) f3) fun v4 g4 n4 r4 w4 hn4 f4 ⟨e4, o4⟩ => ?_
        subst e4
        have s4 : Stk g4 n4 D M p ls os := Stk.old ⟨vl, vo, xl, xo, sv, mp, ml, mo, mn⟩ hn4 o4
        have hx4 : El g4 D v4 (top ls) := hx2.mono (fun _ q => q) (fun j hj => o4 j (sv.dn j hj))
        simp only [Nat.reduceAdd, gE]
        rw [bs22 v4 hx2.1.kind]
        refine fev_row ti22 f4 fun g5 r5 w5 k5 o5 f5 => ?_
        have o5' : Old g4 g5 n4 := fun j hj => o5 j (by omega)
        have s5 := s4.old (n' := n4 + 1) (by omega) o5'
        simp only [hkr, Nat.reduceAdd, gE]
        refine fev_any f5 (put0 p 1 _ [v4] [top ls] ls os D M D g5 (n4 + 1) s5 (row_rds k5 rfl) (Els.one (hx4.mono (fun _ q => q) (fun j hj => o5' j (s4.d j hj).1))) s5.d (by omega) f5) fun v6 g6 n6 r6 w6 hn6 f6 ⟨e6, M', s6, c6⟩ => ?_
        subst e6
        simp only [fgr, Nat.reduceAdd, gE]
        refine ⟨(by (try simp (disch := first | assumption | omega) only [fine, gF]); repeat' (first | rfl | exact (Bool.or_eq_true _ _).mpr (.inr rfl) | refine (Bool.and_eq_true _ _).mpr ⟨?_, ?_⟩)), ?_⟩
        refine ⟨by rw [hE0], D, M', (((c03.trans (.of f4 hn4 o4)).trans (.of f5 (by omega) o5')).trans c6).chg (fun _ q => q) (fun _ q => .inl q), fun _ => ?_⟩
        rw [hL0, hO0]; exact s6.same or_idem
    rw [if_neg e115] at hE0 hL0
    by_cases e116 : c = 116
    · subst e116
      rw [if_pos rfl] at hE0 hL0
      simp only [tyr, fgr, hkr, bor, moved, Int.reduceEq, hif, gE]
      obtain ⟨vl, vo, xl, xo, sv, mp, ml, mo, mn⟩ := s1
      refine opv_same (f66 p 0 vl [vl, vo] ls.length xl g1 n1 sv.row rfl sv.l.rds) ?_
      simp only [hkr, gE]
      refine opv_callf f1 (f101 p ls.length ls os D M g1 n1 ⟨vl, vo, xl, xo, sv, mp, ml, mo, mn⟩ (by omega) (by omega) f1) fun v3 g3 n3 hn3 f3 ⟨D', M', s3, c3⟩ => ?_
      simp only [fgr, gE]
      refine ⟨by rw [hE0], D', M', (c01.chg (fun _ q => q) (fun _ q => .inl q)).trans c3, fun _ => ?_⟩
      rw [hL0, hO0]; exact s3
    rw [if_neg e116] at hE0 hL0
    by_cases e130 : c = 130
    · subst e130
      have lv : leastV 130 = 1 := lv130
      have hne : ls ≠ [] := fun q => by subst q; rw [lv] at h1; simp at h1
      have hp := List.length_pos_iff.2 hne
      rw [if_pos rfl] at hE0 hL0
      simp only [tyr, fgr, hkr, bor, moved, Int.reduceEq, hif, gE]
      obtain ⟨vl, vo, xl, xo, sv, mp, ml, mo, mn⟩ := s1
      obtain ⟨x, hx1, hx2⟩ := elt sv.le hne
      refine opv_callf f1 (f71 p 0 0 ls.length vl x [vl, vo] xl g1 n1 sv.row rfl sv.l.rds hp (by omega) hx1 hx2.1.kind sv.pn (fun j hj => (mn j (ml j hj)).1) f1) fun v3 g3 n3 hn3 f3 ⟨e3, o3⟩ => ?_
      subst e3
      have s3 : Stk g3 n3 D M p ls os := Stk.old ⟨vl, vo, xl, xo, sv, mp, ml, mo, mn⟩ hn3 o3
      have hb3 : Bytes g3 v3 (top ls) := hx2.1.keep fun j hj => o3 j (sv.dn j (hx2.2 j hj))
      have c03 : Ch2 h n M g3 n3 M := c01.trans (.of f3 hn3 o3)
      simp only [hkr, builtin, hb3.bLen t22, gE]
      refine opv_callf f3 (f101 p (top ls).length ls os D M g3 n3 s3 (by omega) (by omega) f3) fun v4 g4 n4 hn4 f4 ⟨D', M', s4, c4⟩ => ?_
      simp only [fgr, gE]
      refine ⟨by rw [hE0], D', M', (c03.chg (fun _ q => q) (fun _ q => .inl q)).trans c4, fun _ => ?_⟩
      rw [hL0, hO0]; exact s4
    rw [if_neg e130] at hE0 hL0
    simp only [fgr, hkr, bor, hif, e107, e108, e115, e116, e130, gE]
    refine opv_callf f1 (f102 p (decide (c = 122)) ls os D M g1 n1 s1 (by omega) hel f1) fun v3 g3 n3 hn3 f3 ⟨e3, M', c3, s3⟩ => ?_
    subst e3
    simp only [fgr, gE]
    refine ⟨by rw [hE0], D, M', (c01.trans c3).chg (fun _ q => q) (fun _ q => .inl q), fun q => ?_⟩
    rw [hL0, hO0]
    exact s3 (by rw [← hE0]; exact q)
def allE (c : Int) (ls os : List (List UInt8)) : Int :=
  if leastV c < 0 then 2 else if (ls.length : Int) < leastV c then 120 else if doE c ls os = 0 then (if (doL c ls os).length + (doO c ls os).length ≤ 100 then 0 else 121) else doE c ls os
def allL (c : Int) (ls os : List (List UInt8)) : List (List UInt8) := if allE c ls os = 0 then doL c ls os else ls
def allO (c : Int) (ls os : List (List UInt8)) : List (List UInt8) := if allE c ls os = 0 then doO c ls os else os
theorem b93 (x : AVal) (hx : x.cells = [x] ∧ oneCell x = true ∧ isJunk x = false) : build env 93 [(0, x)] = M.pure (.agg [x]) := by
  cases x with
  | agg l => cases hx.2.1
  | tup l => cases hx.2.1
  | junk => cases hx.2.1
  | _ => rfl
theorem b95 (x y : AVal) : build env 95 [(0, .agg [x]), (1, .agg [y])] = M.pure (.agg [x, y]) := rfl
set_option maxHeartbeats 8000000 in
theorem f38 (p : Nat) (c : Int) (ls os : List (List UInt8)) (D M : Nat → Prop) (h : Hp) (n : Nat) (hs : Stk h n D M p ls os) (hl : ls.length ≤ 5000) (hol : os.length ≤ 5000) (hel : ∀ l ∈ ls, l.length ≤ 900000) (hf : Free h n) :
    Wp (callI env (evalW env) 38 [.ptr p 0, .int .u8 c]) h n fun v' h' n' => v' = .int .i64 (allE c ls os) ∧ ∃ D' M', Stk h' n' D' M' p (allL c ls os) (allO c ls os) ∧ Chg h n D M h' n' D' M' := by
  refine wp_callI ff38 fi38 ?_
  have fail_ : ∀ (e : Int) (H : Hp) (N : Nat), allE c ls os = e → e ≠ 0 → n ≤ N → Free H N → Old h H n → (AVal.int .i64 e = .int .i64 (allE c ls os) ∧ ∃ D' M', Stk H N D' M' p (allL c ls os) (allO c ls os) ∧ Chg h n D M H N D' M') := fun e H N he h0 hN hF hO => by
    have h0' : ¬ allE c ls os = 0 := by rw [he]; exact h0
    refine ⟨by rw [he], D, M, ?_, old_chg hF hN hO⟩
    unfold allL allO
    rw [if_neg h0', if_neg h0']; exact hs.old hN hO
  by_cases d1 : leastV c < 0
  · have : ¬ 0 ≤ leastV c := by omega
    have he : allE c ls os = 2 := if_pos d1
    simp only [fu38, Try.f38, Option.getD_some, List.replicate, tyr, fgr, hkr, bor, binOther, aggK, unOp, equalTop, equal, nilFn, nilPtr, boolOf, Nat.reduceAdd, Nat.reduceSub, c44, this, gE]
    exact fail_ 2 h n he (by decide) (Nat.le_refl _) hf (Old.refl _ _)
  have d1' : 0 ≤ leastV c := by omega
  obtain ⟨vl, vo, xl, xo, sv, mp, ml, mo, mn⟩ := hs
  simp only [fu38, Try.f38, Option.getD_some, List.replicate, tyr, fgr, hkr, bor, binOther, aggK, unOp, moved, equalTop, equal, nilFn, nilPtr, boolOf, Nat.reduceAdd, Nat.reduceSub, c44, d1', gE]
  refine opv_same (f66 p 0 vl [vl, vo] ls.length xl h n sv.row rfl sv.l.rds) ?_
  by_cases d2 : ((ls.length : Nat) : Int) < leastV c
  · have he : allE c ls os = 120 := by unfold allE; rw [if_neg d1, if_pos d2]
    simp only [fgr, hkr, bor, c67, d2, gE]
    exact fail_ 120 h n he (by decide) (Nat.le_refl _) hf (Old.refl _ _)
  simp only [fgr, hkr, bor, c67, d2, gE]
  refine run_draw ⟨rfl, ?_⟩
  simp only [tyr, moved, Nat.reduceAdd, gE]
  rw [fev_rd (Row.one (off := 0) sv.row rfl ti53 rfl)]
  simp only [hkr, Nat.reduceAdd, gE]
  have hS : ∀ j, ownId vl = some j → decide (ownId vl = some j) = true := fun j hj => decide_eq_true hj
  refine fev_in (fun j => decide (ownId vl = some j)) hf (f68 vl ls.length xl _ n (sv.l.rds.keep fun j hj => only_in (hS j hj)) (sv.l.eqNil u53).1 (fun q => ((sv.l.eqNil (E := env) u53).2 q).2.2) sv.le.cells (fun j hj => (mn j (ml j hj)).1) (by omega) hf.only) fun v3 h3 n3 r3 w3 g3 hn3 f3 ⟨l3, i3, o3⟩ a3 b3 cr3 cw3 => ?_
  have l3 : Lst h3 22 1 v3 ls.length xl := l3.keep fun j hj => a3 j (.inr (i3 j hj).1)
  have o3 : Old h h3 n := fun j hj => by
    by_cases q : ownId vl = some j
    · rw [a3 j (.inl (hS j q)), o3 j hj, only_in (hS j q)]
    · exact b3 j hj (decide_eq_false q)
  have hpn := sv.pn
  have xp : p ∉ w3 := not_in cw3 (decide_eq_false fun q => (sv.lp p q).1 rfl)
  simp only [Nat.reduceAdd, gE]
  rw [b93 v3 l3.rds.kind]
  simp only [tyr, moved, Nat.reduceAdd, gE]
  obtain ⟨er, hrow⟩ := sv.row
  have hrow3 : h3 p = some (.row (.l [vl, vo]) er) := (o3 p sv.pn).trans hrow
  rw [fev_rd (Row.one (off := 1) ⟨er, hrow3⟩ rfl ti53 rfl)]
  simp only [hkr, Nat.reduceAdd, gE]
  have lo3 : Lst h3 22 1 vo os.length xo := sv.o.keep fun j hj => o3 j (mn j (mo j hj)).1
  refine fev_any f3 (f68 vo os.length xo h3 n3 lo3.rds (lo3.eqNil u53).1 (fun q => ((lo3.eqNil (E := env) u53).2 q).2.2) sv.oe.cells (fun j hj => by have := (mn j (mo j hj)).1; omega) (by omega) f3) fun v4 h4 n4 r4 w4 hn4 f4 ⟨l4, i4, o4⟩ => ?_
  simp only [Nat.reduceAdd, gE]
  rw [b93 v4 l4.rds.kind]
  simp only [Nat.reduceAdd, gE]
  rw [b95]
  simp only [Nat.reduceAdd, gE]
  refine fev_box ti95 rfl f4 fun h5 r5 w5 g5 o5 f5 => ?_
  have g5 : h5 n4 = some (.row (.l [v3, v4]) 95) := g5
  have o5n : Old h h5 n := fun j hj => by rw [o5 j (by omega), o4 j (by omega), o3 j hj]
  have hd5 : ∀ j, D j → h5 j = h j := fun j hj => o5n j (sv.dn j hj)
  have sc : Stk h5 (n4 + 1) D (fun j => j = n4 ∨ ownId v3 = some j ∨ ownId v4 = some j) n4 ls os := by
    refine ⟨v3, v4, xl, xo, ⟨⟨_, g5⟩, l3.keep fun j hj => ?_, sv.le.mono (fun _ q => q) hd5, l4.keep fun j hj => o5 j (by have := (i4 j hj).2; omega), sv.oe.mono (fun _ q => q) hd5, by omega, fun j hj => by have := sv.dn j hj; omega, fun q => by have := sv.dn _ q; omega, fun j hj => ?_, fun j hj => ?_⟩, .inl rfl, fun j hj => .inr (.inl hj), fun j hj => .inr (.inr hj), fun j hj => ?_⟩
    · have := (i3 j hj).2; rw [o5 j (by omega), o4 j (by omega)]
    · exact ⟨fun q => by have := (i3 j hj).2; omega, fun q => by have := (i3 j hj).1; have := sv.dn j q; omega⟩
    · exact ⟨fun q => by have := (i4 j hj).2; omega, fun q => by have := (i4 j hj).1; have := sv.dn j q; omega, fun q => by have := (i3 j q).2; have := (i4 j hj).1; omega⟩
    · rcases hj with q | q | q
      · subst q; exact ⟨by omega, fun q => by have := sv.dn _ q; omega⟩
      · exact ⟨by have := (i3 j q).2; omega, fun e => by have := (i3 j q).1; have := sv.dn j e; omega⟩
      · exact ⟨by have := (i4 j q).2; omega, fun e => by have := (i4 j q).1; have := sv.dn j e; omega⟩
  have mc : ∀ j, (j = n4 ∨ ownId v3 = some j ∨ ownId v4 = some j) → n ≤ j := fun j hj => by
    rcases hj with q | q | q
    · omega
    · exact (i3 j q).1
    · have := (i4 j q).1; omega
  simp only [fgr, hkr, Nat.reduceAdd, gE]
  refine ⟨(by (try simp (disch := first | assumption | omega) only [fine, gF]); repeat' (first | rfl | exact (Bool.or_eq_true _ _).mpr (.inr rfl) | refine (Bool.and_eq_true _ _).mpr ⟨?_, ?_⟩)), ?_⟩
  refine opv_callf f5 (f69 n4 c ls os D _ h5 (n4 + 1) sc hl hol hel d1' (by omega) f5) fun v6 h6 n6 hn6 f6 ⟨e6, D', M', ch6, s6⟩ => ?_
  subst e6
  have o6 : Old h h6 n := fun j hj => by rw [ch6.old j (by omega) (fun q => by have := mc j q; omega)]; exact o5n j hj
  by_cases hE : doE c ls os = 0
  case neg =>
    have he : allE c ls os = doE c ls os := by unfold allE; rw [if_neg d1, if_neg (by omega), if_neg hE]
    simp only [fgr, bor, hE, gE]
    exact fail_ _ h6 n6 he hE (by omega) f6 o6
  have s6 := s6 hE
  have bl : (doL c ls os).length + (doO c ls os).length ≤ 1000000 := by
    have b1 : (doL c ls os).length ≤ ls.length + 6 := by
      unfold doL
      cases hfm : frm c with
      | some x =>
        have := frm_ok hfm
        simp only [List.length_append, List.length_take, pickL, List.length_map]
        omega
      | none =>
        have p1 := popL_len ls
        simp only
        repeat' split
        all_goals (try simp only [List.length_append, List.length_singleton, p1])
        all_goals (try omega)
        unfold farL
        have p2 := popL_len ls
        split <;> simp only [List.length_append, List.length_singleton, outI, List.length_take, List.length_drop] <;> omega
    have b2 : (doO c ls os).length ≤ os.length + 1 := by
      unfold doO
      have p1 := popL_len os
      split
      · omega
      · repeat' split
        all_goals (try simp only [List.length_append, List.length_singleton, p1])
        all_goals omega
    omega
  simp only [fgr, hkr, bor, hE, gE]
  refine opv_callf f6 (f65 n4 _ _ D' M' h6 n6 s6 bl f6) fun v7 h7 n7 hn7 f7 ⟨e7, o7⟩ => ?_
  subst e7
  have o7n : Old h h7 n := fun j hj => (o7 j (by omega)).trans (o6 j hj)
  by_cases hm : (doL c ls os).length + (doO c ls os).length ≤ 100
  case neg =>
    have he : allE c ls os = 121 := by unfold allE; rw [if_neg d1, if_neg (by omega), if_pos hE, if_neg hm]
    have hc : 100 < (((doL c ls os).length + (doO c ls os).length : Nat) : Int) := by omega
    simp only [fgr, bor, gt_iff_lt, hc, gE]
    exact fail_ 121 h7 n7 he (by decide) (by omega) f7 o7n
  have he : allE c ls os = 0 := by unfold allE; rw [if_neg d1, if_neg (by omega), if_pos hE, if_pos hm]
  have hc : ¬ 100 < (((doL c ls os).length + (doO c ls os).length : Nat) : Int) := by omega
  have s7 := s6.old hn7 o7
  obtain ⟨wl, wo, zl, zo, tv, tp, tl, to_, tn⟩ := s7
  obtain ⟨ec, hrc⟩ := tv.row
  have hrow7 : h7 p = some (.row (.l [vl, vo]) er) := (o7n p sv.pn).trans hrow
  simp only [fgr, bor, gt_iff_lt, hc, gE]
  rw [opv_rd (Row.whole (id := n4) ⟨ec, hrc⟩ ti95 rfl rfl)]
  simp only [gE]
  have kl := tv.l.rds.kind
  have ko := tv.o.rds.kind
  rw [opv_wr (Row.write (v := .agg [wl, wo]) hrow7 ti95 rfl (by show 0 + 2 ≤ 2; omega) (by show [wl, wo].all oneCell = true; simp [kl.2.1, ko.2.1]))]
  rw [show splice [vl, vo] 0 (AVal.agg [wl, wo]).cells = [wl, wo] from rfl]
  simp only [fgr, gE]
  have hM'n : ∀ j, M' j → n ≤ j := fun j hj => (ch6.m' j hj).elim (mc j) (fun q => by omega)
  have hpD : ¬ D' p := fun q => (ch6.d' p q).elim sv.pd (fun q => by have := sv.pn; omega)
  have hpl : ∀ j, ownId wl = some j → j ≠ p := fun j hj e => by have := hM'n j (tl j hj); have := sv.pn; omega
  have hpo : ∀ j, ownId wo = some j → j ≠ p := fun j hj e => by have := hM'n j (to_ j hj); have := sv.pn; omega
  have hpd : ∀ j, D' j → j ≠ p := fun j hj e => hpD (by rw [← e]; exact hj)
  refine ⟨by rw [he], D', fun j => j = p ∨ ownId wl = some j ∨ ownId wo = some j, ?_, ⟨by have := ch6.nx; omega, f7.upd (by have := sv.pn; have := ch6.nx; omega), ch6.d, fun j hj => (ch6.d' j hj).elim .inl (fun q => .inr (by omega)), fun j hj => ?_, fun j hj hne => ?_⟩⟩
  · unfold allL allO
    rw [if_pos he, if_pos he]
    refine ⟨wl, wo, zl, zo, ⟨⟨er, upd_same _ _ _⟩, tv.l.keep fun j hj => upd_ne _ _ (hpl j hj), tv.le.mono (fun _ q => q) (fun j hj => upd_ne _ _ (hpd j hj)), tv.o.keep fun j hj => upd_ne _ _ (hpo j hj), tv.oe.mono (fun _ q => q) (fun j hj => upd_ne _ _ (hpd j hj)), by have := sv.pn; have := ch6.nx; omega, tv.dn, hpD, fun j hj => ⟨hpl j hj, (tv.lp j hj).2⟩, fun j hj => ⟨hpo j hj, (tv.op j hj).2.1, (tv.op j hj).2.2⟩⟩, .inl rfl, fun j hj => .inr (.inl hj), fun j hj => .inr (.inr hj), fun j hj => ?_⟩
    rcases hj with q | q | q
    · subst q; exact ⟨by have := sv.pn; have := ch6.nx; omega, hpD⟩
    · exact ⟨(tn j (tl j q)).1, (tn j (tl j q)).2⟩
    · exact ⟨(tn j (to_ j q)).1, (tn j (to_ j q)).2⟩
  · rcases hj with q | q | q
    · rw [q]; exact .inl mp
    · exact .inr (hM'n j (tl j q))
    · exact .inr (hM'n j (to_ j q))
  · rw [upd_ne _ _ (fun q => hne (by rw [q]; exact mp))]; exact o7n j hj
def longB (l : List UInt8) : Bool := decide (520 < l.length)
def newE (ls : List (List UInt8)) : Int := if ls.any longB = true then 120 else if 100 < ls.length then 121 else 0
def StkN (h : Hp) (n : Nat) (N : Nat) (p : Nat) (ls os : List (List UInt8)) : Prop := ∃ D M, Stk h n D M p ls os ∧ (∀ j, D j → N ≤ j) ∧ (∀ j, M j → N ≤ j)
theorem StkN.old {h h' : Hp} {n n' N : Nat} {p : Nat} {ls os : List (List UInt8)} (s : StkN h n N p ls os) (hn : n ≤ n') (ho : ∀ j, N ≤ j → j < n → h' j = h j) : StkN h' n' N p ls os := by
  obtain ⟨D, M, s, hd, hm⟩ := s
  exact ⟨D, M, s.beside hn (fun j hj q => ho j (q.elim (hd j) (hm j)) hj), hd, hm⟩
theorem b95z : build env 95 [] = M.pure (.agg [.nils, .nils]) := rfl
theorem any_succ {ls : List (List UInt8)} {i : Nat} (hi : i < ls.length) (h : (ls.take i).any longB = false) (hl : ¬ 520 < ls[i].length) : (ls.take (i + 1)).any longB = false := by
  rw [List.take_add_one, List.getElem?_eq_getElem hi, Option.toList_some, List.any_append, h]
  simp [longB, hl]
set_option maxHeartbeats 4000000 in
theorem loop37 (Q : Post0) (ks : List Kf) (p n0 : Nat) (v : AVal) (xs : List AVal) (ls : List (List UInt8)) (D0 : Nat → Prop) (h0 : Hp) (hlen : ls.length ≤ 5000) (hv : Rds h0 1 v ls.length xs) (hvn : ∀ j, ownId v = some j → j < n0) (hel : Els h0 D0 xs ls) (hd0 : ∀ j, D0 j → j < n0)
    (hq : ∀ (h : Hp) n (x6 x11 x12 x17 x28 : AVal), ls.any longB = false → StkN h n n0 p ls [] → Old h0 h n0 → n0 ≤ n → Free h n → Kont env 37 none Q ks (.exit 0) (v :: AVal.junk :: .nilp :: .int .i64 0 :: .ptr p 0 :: AVal.junk :: x6 :: AVal.junk :: AVal.junk :: v :: .int .i64 (ls.length : Nat) :: x11 :: x12 :: AVal.junk :: AVal.junk :: AVal.junk :: AVal.junk :: x17 :: AVal.junk :: AVal.junk :: AVal.junk :: AVal.junk :: AVal.junk :: AVal.junk :: AVal.junk :: AVal.junk :: AVal.junk :: AVal.junk :: x28 :: AVal.junk :: []) h n)
    (hr : ∀ (h : Hp) n (x6 x11 x12 x17 x28 : AVal), ls.any longB = true → Old h0 h n0 → n0 ≤ n → Free h n → Kont env 37 none Q ks .ret (v :: AVal.junk :: .nilp :: .int .i64 120 :: .ptr p 0 :: AVal.junk :: x6 :: AVal.junk :: AVal.junk :: v :: .int .i64 (ls.length : Nat) :: x11 :: x12 :: AVal.junk :: AVal.junk :: AVal.junk :: AVal.junk :: x17 :: AVal.junk :: AVal.junk :: AVal.junk :: AVal.junk :: AVal.junk :: AVal.junk :: AVal.junk :: AVal.junk :: AVal.junk :: AVal.junk :: x28 :: AVal.junk :: []) h n) :
    ∀ (m i : Nat) (h : Hp) (n : Nat) (x6 x12 x17 x28 : AVal), i + m = ls.length → (ls.take i).any longB = false → StkN h n n0 p (ls.take i) [] → Old h0 h n0 → n0 ≤ n → Free h n →
    Run env 37 none Q (.loop lp37_0) ks (v :: AVal.junk :: .nilp :: .int .i64 0 :: .ptr p 0 :: AVal.junk :: x6 :: AVal.junk :: AVal.junk :: v :: .int .i64 (ls.length : Nat) :: .int .i64 (i : Nat) :: x12 :: AVal.junk :: AVal.junk :: AVal.junk :: AVal.junk :: x17 :: AVal.junk :: AVal.junk :: AVal.junk :: AVal.junk :: AVal.junk :: AVal.junk :: AVal.junk :: AVal.junk :: AVal.junk :: AVal.junk :: x28 :: AVal.junk :: []) h n := by
  intro m
  induction m with
  | zero =>
    intro i h n x6 x12 x17 x28 hi hs st old hn hf
    have : i = ls.length := by omega
    subst this
    have hc : ¬ ((ls.length : Nat) : Int) < ((ls.length : Nat) : Int) := by omega
    rw [run_loop]
    simp only [lp37_0, loopsOf, Try.f37, Option.getD_some, fgr, bor, List.getD_cons_zero, hc, gE]
    rw [List.take_length] at hs st
    exact hq h n _ _ _ _ _ hs st old hn hf
  | succ m ih =>
    intro i h n x6 x12 x17 x28 hi hs st old hn hf
    have hil : i < ls.length := by omega
    have hc : ((i : Nat) : Int) < ((ls.length : Nat) : Int) := by omega
    have hw : IntKind.i64.wrap (((i : Nat) : Int) + 1) = ((i + 1 : Nat) : Int) := by rw [w64 (by omega) (by omega)]; omega
    obtain ⟨x, hx1, hx2⟩ := hel.get hil
    have hvh : Rds h 1 v ls.length xs := hv.keep fun j hj => old j (hvn j hj)
    have hbx : Bytes h x ls[i] := hx2.1.keep fun j hj => old j (hd0 j (hx2.2 j hj))
    rw [run_loop]
    simp only [lp37_0, loopsOf, Try.f37, Option.getD_some, fgr, bor, List.getD_cons_zero, hc, gE]
    rw [opv_rd (hvh.idx (j := i) u53 s22 rfl hil)]
    simp only [Nat.mul_one, gE]
    rw [opv_rd (hvh.load (k := i) ti22 rfl hx1)]
    by_cases hlong : 520 < ls[i].length
    · have hc2 : 520 < ((ls[i].length : Nat) : Int) := by omega
      simp only [fgr, builtin, bor, gt_iff_lt, hbx.bLen t22, hc2, gE]
      refine hr h n _ _ _ _ _ ?_ old hn hf
      rw [List.any_eq_true]
      exact ⟨ls[i], List.getElem_mem hil, decide_eq_true hlong⟩
    have hc2 : ¬ 520 < ((ls[i].length : Nat) : Int) := by omega
    simp only [fgr, builtin, bor, gt_iff_lt, hbx.bLen t22, hc2, gE]
    refine run_draw ⟨rfl, ?_⟩
    simp only [tyr, hkr, moved, Nat.reduceAdd, gE]
    refine fev_any hf (f64 x ls[i] h n hbx (by omega) hf) fun v1 h1 n1 r1 w1 hn1 f1 ⟨b1, i1, o1⟩ => ?_
    simp only [Nat.reduceAdd, gE]
    rw [bs22 v1 b1.kind]
    refine fev_row ti22 f1 fun h2 r2 w2 g2 o2 f2 => ?_
    have o2' : Old h h2 n := fun j hj => by rw [o2 j (by omega), o1 j hj]
    obtain ⟨D, M, s, hd, hm⟩ := st
    have s2 := s.old (n' := n1 + 1) (by omega) o2'
    simp only [hkr, Nat.reduceAdd, gE]
    refine fev_any f2 (put0 p 1 _ [v1] [ls[i]] _ [] D M (fun j => ownId v1 = some j) h2 (n1 + 1) s2 (row_rds g2 rfl) (Els.one ⟨b1.keep fun j hj => o2 j (by have := (i1 j hj).2; omega), fun j hj => hj⟩) (fun j hj => ⟨by have := (i1 j hj).2; omega, fun q => by have := (i1 j hj).1; have := (s.m j q).1; omega⟩) (by rw [List.length_take]; omega) f2) fun v3 h3 n3 r3 w3 hn3 f3 ⟨e3, M', s3, c3⟩ => ?_
    subst e3
    simp only [fgr, bor, wrapI, Nat.reduceAdd, gE]
    refine ⟨(by (try simp (disch := first | assumption | omega) only [fine, gF]); repeat' (first | rfl | exact (Bool.or_eq_true _ _).mpr (.inr rfl) | refine (Bool.and_eq_true _ _).mpr ⟨?_, ?_⟩)), ?_⟩
    simp only [hw]
    refine ih (i + 1) h3 n3 _ _ _ _ (by omega) (any_succ hil hs hlong) ⟨fun j => D j ∨ ownId v1 = some j, M', ?_, fun j hj => hj.elim (hd j) (fun q => by have := (i1 j q).1; omega), fun j hj => (c3.m' j hj).elim (hm j) (fun q => by omega)⟩ (fun j hj => by rw [c3.old j (by omega) (fun q => by have := hm j q; omega), o2' j (by omega), old j hj]) (by omega) f3
    rw [List.take_add_one, List.getElem?_eq_getElem hil, Option.toList_some]
    exact s3
theorem f37 (v : AVal) (xs : List AVal) (ls : List (List UInt8)) (D0 : Nat → Prop) (h : Hp) (n : Nat) (hlen : ls.length ≤ 5000) (hv : Rds h 1 v ls.length xs) (hvn : ∀ j, ownId v = some j → j < n) (hel : Els h D0 xs ls) (hd0 : ∀ j, D0 j → j < n) (hf : Free h n) :
    Wp (callI env (evalW env) 37 [v]) h n fun v' h' n' => Old h h' n ∧ ((newE ls ≠ 0 ∧ v' = .tup [.nilp, .int .i64 (newE ls)]) ∨ (newE ls = 0 ∧ ∃ p, v' = .tup [.ptr p 0, .int .i64 0] ∧ StkN h' n' n p ls [])) := by
  refine wp_callI ff37 fi37 ?_
  simp only [fu37, Try.f37, Option.getD_some, List.replicate, fgr, Nat.reduceSub, b95z, gE]
  refine opv_box (v := .agg [.nils, .nils]) ti95 rfl hf fun h1 p1 o1 f1 => ?_
  obtain ⟨e1, p1⟩ := p1
  have p1 : h1 n = some (.row (.l [.nils, .nils]) e1) := p1
  have o1' : Old h h1 n := fun j hj => o1 j (by omega)
  have hv1 : Rds h1 1 v ls.length xs := hv.keep fun j hj => o1' j (hvn j hj)
  simp only [fgr, builtin, hv1.bLen u53, gE]
  have st : StkN h1 (n + 1) n n [] [] := ⟨fun _ => False, fun j => j = n, ⟨.nils, .nils, [], [], ⟨⟨_, p1⟩, .nil, Els.nil _ _, .nil, Els.nil _ _, by omega, fun j hj => hj.elim, fun q => q, fun j hj => (by cases hj), fun j hj => (by cases hj)⟩, rfl, fun j hj => (by cases hj), fun j hj => (by cases hj), fun j hj => ⟨by omega, fun q => q⟩⟩, fun j hj => hj.elim, fun j hj => by omega⟩
  refine loop37 _ _ n n v xs ls D0 h hlen hv hvn hel hd0 ?_ ?_ ls.length 0 h1 (n + 1) _ _ _ _ (by omega) rfl st o1' (by omega) f1
  · intro h2 n2 x6 x11 x12 x17 x28 ha st2 old2 hn2 f2
    obtain ⟨D, M, s2, hd, hm⟩ := st2
    simp only [hkr, gE]
    refine opv_callf f2 (f65 n ls [] D M h2 n2 s2 (by simp; omega) f2) fun v3 h3 n3 hn3 f3 ⟨e3, o3⟩ => ?_
    subst e3
    have old3 : Old h h3 n := fun j hj => (o3 j (by omega)).trans (old2 j hj)
    by_cases hm2 : 100 < ls.length
    · have he : newE ls = 121 := by unfold newE; rw [if_neg (by rw [ha]; decide), if_pos hm2]
      have hc : 100 < ((ls.length : Nat) : Int) := by omega
      simp only [fgr, bor, gt_iff_lt, hc, gE]
      exact ⟨old3, .inl ⟨by rw [he]; decide, by rw [he]⟩⟩
    · have he : newE ls = 0 := by unfold newE; rw [if_neg (by rw [ha]; decide), if_neg hm2]
      have hc : ¬ 100 < ((ls.length : Nat) : Int) := by omega
      simp only [fgr, bor, gt_iff_lt, hc, gE]
      exact ⟨old3, .inr ⟨he, n, rfl, D, M, s2.old hn3 o3, hd, hm⟩⟩
  · intro h2 n2 x6 x11 x12 x17 x28 ha old2 hn2 f2
    have he : newE ls = 120 := if_pos ha
    simp only [core1, nth, true_and]
    exact ⟨old2, .inl ⟨by rw [he]; decide, by rw [he]⟩⟩
theorem f64r (v : AVal) (l : List UInt8) (h : Hp) (n : Nat) (hb : Bytes h v l) (hl : l.length ≤ 1000000) (hf : Free h n) : Wp (callI env (evalW env) 64 [v]) h n fun v' h' n' => Lst h' 5 1 v' l.length (l.map u8) ∧ (∀ j, ownId v' = some j → n ≤ j ∧ j < n') ∧ Old h h' n := by
  refine wp_callI ff64 fi64 ?_
  simp only [fu64, Try.f64, Option.getD_some, List.replicate, fgr, Nat.reduceSub, hb.eqNil t22, gE]
  cases hnil : isNils v with
  | true =>
    simp only [fgr, gE]
    have := hb.nil.2 hnil
    subst this
    exact ⟨.nil, (fun j hj => by cases hj), Old.refl _ _⟩
  | false =>
    simp only [tyr, builtin, newRow, buildSlice, reps, fill, Nat.ble, gE]
    refine opv_lst_append (i := ⟨.int .u8, 1, 1, .int .u8 0⟩) (e := 5) (cnt := 0) (xs := []) (lst_new (upd_same _ _ _) rfl (fun k hk => by injection hk with hk; exact hk.symm)) ((hb.keep fun j hj => ?_).rds) t22 t22 ti5 (u8_one l) (by decide) (by show 2 * (0 + l.length) * 1 ≤ _; omega) (by omega) hf.new ?_
    · rw [upd_ne]
      intro e
      cases hb with
      | nils => cases hj
      | isl => cases hj
      | sl id off cap c e2 l hh hs hc => injection hj with hj; subst hj; subst e; rw [hf _ (Nat.le_refl _)] at hh; cases hh
    · intro v' h' n' hn hf' ho hid hold
      simp only [fgr, gE]
      rw [List.nil_append, Nat.zero_add] at ho
      refine ⟨ho, fun j hj => ?_, fun j hj => ?_⟩
      · rcases hid with q | ⟨q, q2⟩
        · rw [q] at hj; injection hj with hj; subst hj; exact ⟨Nat.le_refl _, by omega⟩
        · rw [q] at hj; injection hj with hj; omega
      · rw [hold j (by omega) (fun e => by injection e with e; omega), upd_ne _ _ (by omega)]
theorem lst_bytes {h : Hp} {v : AVal} {cnt : Nat} {l : List UInt8} (hl : Lst h 5 1 v cnt (l.map u8)) : Bytes h v l := hl.rds.bytes (by intro e; subst e; cases hl)
def Wr8 (h : Hp) (xs : List AVal) : Prop := ∀ (j : Nat) x, xs[j]? = some x → ∃ l : List UInt8, Lst h 5 1 x l.length (l.map u8)
def TwinP (h : Hp) (n : Nat) (ls : List (List UInt8)) (v' : AVal) (h' : Hp) (n' : Nat) : Prop :=
  ∃ ys D, Lst h' 22 1 v' ls.length ys ∧ Els h' D ys ls ∧ Wr8 h' ys ∧ (∀ j, D j → n ≤ j ∧ j < n') ∧ (∀ j, ownId v' = some j → n ≤ j ∧ j < n' ∧ ¬ D j) ∧ Old h h' n
set_option maxHeartbeats 4000000 in
theorem loop70 (Q : Post0) (ks : List Kf) (n0 : Nat) (v : AVal) (xs : List AVal) (ls : List (List UInt8)) (D0 : Nat → Prop) (h0 : Hp) (hlen : ls.length ≤ 5000) (hv : Rds h0 1 v ls.length xs) (hvn : ∀ j, ownId v = some j → j < n0) (hel : Els h0 D0 xs ls) (hd0 : ∀ j, D0 j → j < n0) (hll : ∀ l ∈ ls, l.length ≤ 1000000)
    (hq : ∀ (h : Hp) n v3 (x5 x8 x9 : AVal), TwinP h0 n0 ls v3 h n → n0 ≤ n → Free h n → Kont env 70 none Q ks (.exit 0) (v :: AVal.junk :: .nils :: v3 :: AVal.junk :: x5 :: v :: .int .i64 (ls.length : Nat) :: x8 :: x9 :: AVal.junk :: AVal.junk :: AVal.junk :: AVal.junk :: AVal.junk :: AVal.junk :: AVal.junk :: AVal.junk :: AVal.junk :: []) h n) :
    ∀ (m i : Nat) (h : Hp) (n : Nat) (v3 : AVal) (x5 x9 : AVal), i + m = ls.length → TwinP h0 n0 (ls.take i) v3 h n → n0 ≤ n → Free h n →
    Run env 70 none Q (.loop lp70_0) ks (v :: AVal.junk :: .nils :: v3 :: AVal.junk :: x5 :: v :: .int .i64 (ls.length : Nat) :: .int .i64 (i : Nat) :: x9 :: AVal.junk :: AVal.junk :: AVal.junk :: AVal.junk :: AVal.junk :: AVal.junk :: AVal.junk :: AVal.junk :: AVal.junk :: []) h n := by
  intro m
  induction m with
  | zero =>
    intro i h n v3 x5 x9 hi ht hn hf
    have : i = ls.length := by omega
    subst this
    have hc : ¬ ((ls.length : Nat) : Int) < ((ls.length : Nat) : Int) := by omega
    rw [run_loop]
    simp only [lp70_0, loopsOf, Try.f70, Option.getD_some, fgr, bor, List.getD_cons_zero, hc, gE]
    rw [List.take_length] at ht
    exact hq h n v3 _ _ _ ht hn hf
  | succ m ih =>
    intro i h n v3 x5 x9 hi ht hn hf
    obtain ⟨ys, D, l3, el, wr, hd, hid, old⟩ := ht
    have hil : i < ls.length := by omega
    have hc : ((i : Nat) : Int) < ((ls.length : Nat) : Int) := by omega
    have hw : IntKind.i64.wrap (((i : Nat) : Int) + 1) = ((i + 1 : Nat) : Int) := by rw [w64 (by omega) (by omega)]; omega
    obtain ⟨x, hx1, hx2⟩ := hel.get hil
    have hvh : Rds h 1 v ls.length xs := hv.keep fun j hj => old j (hvn j hj)
    have hbx : Bytes h x ls[i] := hx2.1.keep fun j hj => old j (hd0 j (hx2.2 j hj))
    rw [run_loop]
    simp only [lp70_0, loopsOf, Try.f70, Option.getD_some, fgr, bor, List.getD_cons_zero, hc, gE]
    rw [opv_rd (hvh.idx (j := i) u53 s22 rfl hil)]
    simp only [Nat.mul_one, gE]
    rw [opv_rd (hvh.load (k := i) ti22 rfl hx1)]
    simp only [fgr, hkr, gE]
    refine opv_callf hf (f64r x ls[i] h n hbx (hll _ (List.getElem_mem hil)) hf) fun v1 h1 n1 hn1 f1 ⟨b1, i1, o1⟩ => ?_
    simp only [gE]
    rw [bs22 v1 b1.rds.kind]
    refine opv_row ti22 f1 fun h2 g2 o2 f2 => ?_
    have o2' : Old h h2 n := fun j hj => by rw [o2 j (by omega), o1 j hj]
    have l32 : Lst h2 22 1 v3 (ls.take i).length ys := l3.keep fun j hj => o2' j (hid j hj).2.1
    simp only [builtin, gE]
    refine opv_lst_append (i := ⟨.slice 5, 1, 24, .nils⟩) (e := 22) (k := 1) (ys := [v1]) l32 (row_rds g2 rfl) u53 u53 ti22 (by simp [b1.rds.kind.2.1]) (by decide) (by show 2 * ((ls.take i).length + 1) * 24 ≤ _; rw [List.length_take]; omega) (by rw [List.length_take]; omega) f2 ?_
    intro v4 h4 n4 hn4 f4 l4 i4 o4
    simp only [fgr, bor, wrapI, hw, gE]
    have b4 : Lst h4 5 1 v1 ls[i].length (ls[i].map u8) := b1.keep fun j hj => by
      have := i1 j hj
      rw [o4 j (by omega) (fun q => by have := hid j q; omega), o2 j (by omega)]
    have hd4 : ∀ j, D j → h4 j = h j := fun j hj => by
      have := hd j hj
      rw [o4 j (by omega) (fun q => (hid j q).2.2 hj), o2' j (by omega)]
    refine ih (i + 1) h4 n4 v4 _ _ (by omega) ⟨ys ++ [v1], fun j => D j ∨ ownId v1 = some j, ?_, ?_, ?_, ?_, ?_, ?_⟩ (by omega) f4
    · rw [show (ls.take (i + 1)).length = (ls.take i).length + 1 by rw [List.length_take, List.length_take]; omega]
      exact l4
    · rw [List.take_add_one, List.getElem?_eq_getElem hil, Option.toList_some]
      exact (el.mono (fun j q => .inl q) hd4).app (Els.one ⟨lst_bytes b4, fun j q => .inr q⟩)
    · intro j y hy
      by_cases c : j < ys.length
      · rw [List.getElem?_append_left c] at hy
        obtain ⟨l, hl⟩ := wr j y hy
        refine ⟨l, hl.keep fun k hk => hd4 k ?_⟩
        have := el.at_ j y _ hy (List.getElem?_eq_getElem (by rw [← el.len]; exact c))
        exact this.2 k hk
      · rw [List.getElem?_append_right (by omega)] at hy
        cases hjl : j - ys.length with
        | zero => rw [hjl] at hy; simp at hy; subst hy; exact ⟨_, b4⟩
        | succ k => rw [hjl] at hy; simp at hy
    · intro j hj
      rcases hj with q | q
      · have := hd j q; omega
      · have := i1 j q; omega
    · intro j hj
      rcases i4 with q | ⟨q, q2⟩
      · rw [q] at hj
        have := hid j hj
        exact ⟨this.1, by omega, fun w => w.elim this.2.2 (fun w => by have := i1 j w; omega)⟩
      · rw [q] at hj; injection hj with hj; subst hj
        exact ⟨by omega, by omega, fun w => w.elim (fun w => by have := hd _ w; omega) (fun w => by have := i1 _ w; omega)⟩
    · intro j hj
      rw [o4 j (by omega) (fun q => by have := (hid j q).1; omega), o2' j (by omega), old j hj]
theorem f70 (v : AVal) (xs : List AVal) (ls : List (List UInt8)) (D0 : Nat → Prop) (h : Hp) (n : Nat) (hlen : ls.length ≤ 5000) (hv : Rds h 1 v ls.length xs) (hvn : ∀ j, ownId v = some j → j < n) (hel : Els h D0 xs ls) (hd0 : ∀ j, D0 j → j < n) (hll : ∀ l ∈ ls, l.length ≤ 1000000) (hf : Free h n) :
    Wp (callI env (evalW env) 70 [v]) h n (TwinP h n ls) := by
  refine wp_callI ff70 fi70 ?_
  simp only [fu70, Try.f70, Option.getD_some, List.replicate, fgr, builtin, Nat.reduceSub, hv.bLen u53, gE]
  refine loop70 _ _ n v xs ls D0 h hlen hv hvn hel hd0 hll ?_ ls.length 0 h n .nils _ _ (by omega) ⟨[], fun _ => False, .nil, Els.nil _ _, fun j x hx => by simp at hx, fun j hj => hj.elim, fun j hj => (by cases hj), Old.refl _ _⟩ (Nat.le_refl _) hf
  intro h1 n1 v3 x5 x8 x9 ht hn hf1
  simp only [fgr, gE]
  exact ht
theorem f40 (p : Nat) (ls os : List (List UInt8)) (D M : Nat → Prop) (h : Hp) (n : Nat) (hs : Stk h n D M p ls os) (hlen : ls.length ≤ 5000) (hll : ∀ l ∈ ls, l.length ≤ 1000000) (hf : Free h n) : Wp (callI env (evalW env) 40 [.ptr p 0]) h n (TwinP h n ls) := by
  obtain ⟨vl, vo, xl, xo, sv, mp, ml, mo, mn⟩ := hs
  refine wp_callI ff40 fi40 ?_
  simp only [fu40, Try.f40, Option.getD_some, List.replicate, tyr, fgr, bor, binOther, aggK, moved, equalTop, equal, nilFn, nilPtr, boolOf, Nat.reduceSub, gE]
  rw [opv_rd (Row.one (off := 0) sv.row rfl ti53 rfl)]
  simp only [hkr, gE]
  refine opv_call (f70 vl xl ls D h n hlen sv.l.rds (fun j hj => (mn j (ml j hj)).1) sv.le sv.dn hll hf) fun v1 h1 n1 hn1 ht => ?_
  simp only [fgr, gE]
  exact ht
theorem f41 (p : Nat) (ls os : List (List UInt8)) (D M : Nat → Prop) (h : Hp) (n : Nat) (hs : Stk h n D M p ls os) (hlen : os.length ≤ 5000) (hll : ∀ l ∈ os, l.length ≤ 1000000) (hf : Free h n) : Wp (callI env (evalW env) 41 [.ptr p 0]) h n (TwinP h n os) := by
  obtain ⟨vl, vo, xl, xo, sv, mp, ml, mo, mn⟩ := hs
  refine wp_callI ff41 fi41 ?_
  simp only [fu41, Try.f41, Option.getD_some, List.replicate, tyr, fgr, bor, binOther, aggK, moved, equalTop, equal, nilFn, nilPtr, boolOf, Nat.reduceSub, gE]
  rw [opv_rd (Row.one (off := 1) sv.row rfl ti53 rfl)]
  simp only [hkr, gE]
  refine opv_call (f70 vo xo os D h n hlen sv.o.rds (fun j hj => (mn j (mo j hj)).1) sv.oe sv.dn hll hf) fun v1 h1 n1 hn1 ht => ?_
  simp only [fgr, gE]
  exact ht
theorem same_lists {ls ms : List (List UInt8)} (hl : ls.length = ms.length) (he : ∀ j (h1 : j < ls.length) (h2 : j < ms.length), ls[j] = ms[j]) : ls = ms := List.ext_getElem hl he
set_option maxHeartbeats 4000000 in
theorem loop39 (Q : Post0) (ks : List Kf) (v w : AVal) (xs ys : List AVal) (ls ms : List (List UInt8)) (D E : Nat → Prop) (h : Hp) (n : Nat) (hlen : ls.length ≤ 100000) (hll : ls.length = ms.length) (hv : Rds h 1 v ls.length xs) (hw : Rds h 1 w ms.length ys) (he : Els h D xs ls) (hm : Els h E ys ms) (hb : ∀ l ∈ ls, l.length ≤ 1000000) (hb2 : ∀ l ∈ ms, l.length ≤ 1000000) (hf : Free h n)
    (hq : ∀ (x10 x14 x27 : AVal), ls = ms → Kont env 39 none Q ks (.exit 0) (v :: w :: AVal.junk :: AVal.junk :: .bool false :: .int .i64 (ls.length : Nat) :: AVal.junk :: AVal.junk :: AVal.junk :: AVal.junk :: x10 :: AVal.junk :: AVal.junk :: AVal.junk :: x14 :: AVal.junk :: AVal.junk :: AVal.junk :: AVal.junk :: AVal.junk :: AVal.junk :: AVal.junk :: AVal.junk :: AVal.junk :: AVal.junk :: AVal.junk :: AVal.junk :: x27 :: []) h n)
    (hr : ∀ (x10 x14 x27 : AVal) (z : AVal), ls ≠ ms → Kont env 39 none Q ks .ret (v :: w :: AVal.junk :: AVal.junk :: .bool false :: z :: AVal.junk :: AVal.junk :: AVal.junk :: AVal.junk :: x10 :: AVal.junk :: AVal.junk :: AVal.junk :: x14 :: AVal.junk :: AVal.junk :: AVal.junk :: AVal.junk :: AVal.junk :: AVal.junk :: AVal.junk :: AVal.junk :: AVal.junk :: AVal.junk :: AVal.junk :: AVal.junk :: x27 :: []) h n) :
    ∀ (m i : Nat) (x10 x14 x27 : AVal), i + m = ls.length → (∀ j (h1 : j < ls.length) (h2 : j < ms.length), j < i → ls[j] = ms[j]) →
    Run env 39 none Q (.loop lp39_0) ks (v :: w :: AVal.junk :: AVal.junk :: .bool false :: .int .i64 (i : Nat) :: AVal.junk :: AVal.junk :: AVal.junk :: AVal.junk :: x10 :: AVal.junk :: AVal.junk :: AVal.junk :: x14 :: AVal.junk :: AVal.junk :: AVal.junk :: AVal.junk :: AVal.junk :: AVal.junk :: AVal.junk :: AVal.junk :: AVal.junk :: AVal.junk :: AVal.junk :: AVal.junk :: x27 :: []) h n := by
  intro m
  induction m with
  | zero =>
    intro i x10 x14 x27 hi hs
    have : i = ls.length := by omega
    subst this
    have hc : ¬ ((ls.length : Nat) : Int) < ((ls.length : Nat) : Int) := by omega
    rw [run_loop]
    simp only [lp39_0, loopsOf, Try.f39, Option.getD_some, fgr, builtin, bor, List.getD_cons_zero, hv.bLen u53, hc, gE]
    exact hq _ _ _ (same_lists hll fun j h1 h2 => hs j h1 h2 h1)
  | succ m ih =>
    intro i x10 x14 x27 hi hs
    have hil : i < ls.length := by omega
    have him : i < ms.length := by omega
    have hc : ((i : Nat) : Int) < ((ls.length : Nat) : Int) := by omega
    have hwr : IntKind.i64.wrap (((i : Nat) : Int) + 1) = ((i + 1 : Nat) : Int) := by rw [w64 (by omega) (by omega)]; omega
    obtain ⟨x, hx1, hx2⟩ := he.get hil
    obtain ⟨y, hy1, hy2⟩ := hm.get him
    rw [run_loop]
    simp only [lp39_0, loopsOf, Try.f39, Option.getD_some, fgr, builtin, bor, List.getD_cons_zero, hv.bLen u53, hc, gE]
    refine run_draw ⟨rfl, ?_⟩
    simp only [Nat.reduceAdd, gE]
    rw [fev_rd (hv.idx (j := i) u53 s22 rfl hil)]
    simp only [Nat.reduceAdd, Nat.mul_one, gE]
    rw [fev_rd (hv.load (k := i) ti22 rfl hx1)]
    simp only [Nat.reduceAdd, gE]
    rw [fev_rd (hx2.1.str_rd t22 t9 t5)]
    simp only [Nat.reduceAdd, gE]
    rw [fev_rd (hw.idx (j := i) u53 s22 rfl him)]
    simp only [Nat.reduceAdd, Nat.mul_one, gE]
    rw [fev_rd (hw.load (k := i) ti22 rfl hy1)]
    simp only [Nat.reduceAdd, gE]
    rw [fev_rd (hy2.1.str_rd t22 t9 t5)]
    by_cases heq : ls[i] = ms[i]
    · simp only [fgr, bor, wrapI, strOp, Nat.reduceAdd, heq, gE]
      refine ⟨(by (try simp (disch := first | assumption | omega) only [fine, gF]); repeat' (first | rfl | exact (Bool.or_eq_true _ _).mpr (.inr rfl) | refine (Bool.and_eq_true _ _).mpr ⟨?_, ?_⟩)), ?_⟩
      simp only [hwr]
      refine ih (i + 1) _ _ _ (by omega) (fun j h1 h2 hj => ?_)
      by_cases q : j = i
      · subst q; exact heq
      · exact hs j h1 h2 (by omega)
    · simp only [fgr, bor, strOp, Nat.reduceAdd, heq, gE]
      refine ⟨(by (try simp (disch := first | assumption | omega) only [fine, gF]); repeat' (first | rfl | exact (Bool.or_eq_true _ _).mpr (.inr rfl) | refine (Bool.and_eq_true _ _).mpr ⟨?_, ?_⟩)), ?_⟩
      exact hr _ _ _ _ (fun q => heq (by subst q; rfl))
theorem f39 (v w : AVal) (xs ys : List AVal) (ls ms : List (List UInt8)) (D E : Nat → Prop) (h : Hp) (n : Nat) (hlen : ls.length ≤ 100000) (hv : Rds h 1 v ls.length xs) (hw : Rds h 1 w ms.length ys) (he : Els h D xs ls) (hm : Els h E ys ms) (hb : ∀ l ∈ ls, l.length ≤ 1000000) (hb2 : ∀ l ∈ ms, l.length ≤ 1000000) (hf : Free h n) :
    Wp (callI env (evalW env) 39 [v, w]) h n fun v' h' n' => v' = .bool (decide (ls = ms)) ∧ h' = h ∧ n' = n := by
  refine wp_callI ff39 fi39 ?_
  by_cases hl : ls.length = ms.length
  case neg =>
    have hc : ¬ ((ls.length : Nat) : Int) = ((ms.length : Nat) : Int) := by omega
    have hne : ¬ ls = ms := fun q => hl (by rw [q])
    simp only [fu39, Try.f39, Option.getD_some, List.replicate, fgr, builtin, bor, Nat.reduceAdd, Nat.reduceSub, hv.bLen u53, hw.bLen u53, hc, hne, gE]
  have hc : ((ls.length : Nat) : Int) = ((ms.length : Nat) : Int) := by omega
  simp only [fu39, Try.f39, Option.getD_some, List.replicate, fgr, builtin, bor, Nat.reduceAdd, Nat.reduceSub, hv.bLen u53, hw.bLen u53, hc, gE]
  refine loop39 _ _ v w xs ys ls ms D E h n hlen hl hv hw he hm hb hb2 hf ?_ ?_ ls.length 0 _ _ _ (by omega) (fun j _ _ hj => by omega)
  · intro x10 x14 x27 q
    simp only [fgr, q, gE]
  · intro x10 x14 x27 z q
    simp only [core1, nth, decide_false, and_self, q]
theorem fin_len (s : Nat) (l : List UInt8) : (fin s l).length ≤ l.length + 1 := by
  by_cases h : l = []
  · subst h; rw [fin_nil]; simp
  · by_cases hb : 128 ≤ (l.getLast h).toNat
    · rw [fin_hi s l h hb]; simp
    · rw [fin_lo s l h hb]; have := List.length_pos_iff.2 h; simp only [List.length_append, List.length_dropLast, List.length_singleton]; omega
theorem encL_len (x : Int) (h1 : -9223372036854775808 < x) (h2 : x ≤ 9223372036854775807) : (encL x).length ≤ 9 := by
  unfold encL
  split
  · simp
  · unfold fmB
    have := fin_len (sgn x) (dig x.natAbs)
    have := dig_len 8 x.natAbs (by have : (256 : Nat) ^ 8 = 18446744073709551616 := by decide
                                   omega)
    omega
structure Ok (ls os : List (List UInt8)) : Prop where
  n : ls.length + os.length ≤ 100
  l : ∀ l ∈ ls, l.length ≤ 520
  o : ∀ l ∈ os, l.length ≤ 520
theorem top_ok {ls : List (List UInt8)} (h : ∀ l ∈ ls, l.length ≤ 520) (k : Int) : (topL ls k).length ≤ 520 := top_len h k
theorem pop_mem {ls : List (List UInt8)} {l : List UInt8} (h : l ∈ popL ls) : l ∈ ls := List.mem_of_mem_take h
theorem mem_getD {ls : List (List UInt8)} {i : Nat} : ls.getD i [] ∈ ls ∨ ls.getD i [] = [] := by
  rw [List.getD_eq_getElem?_getD]
  cases h : ls[i]? with
  | none => exact .inr rfl
  | some x => exact .inl (List.mem_of_getElem? h)
theorem doL_ok {c : Int} {ls os : List (List UInt8)} (h : Ok ls os) : (∀ l ∈ doL c ls os, l.length ≤ 520) ∧ (∀ l ∈ doO c ls os, l.length ≤ 520) := by
  have tl : (top ls).length ≤ 520 := top_ok h.l 0
  have to_ : (top os).length ≤ 520 := top_ok h.o 0
  have hn := h.n
  have el := encL_len (ls.length : Nat) (by omega) (by omega)
  have et := encL_len ((top ls).length : Nat) (by omega) (by omega)
  constructor
  · intro l hl
    unfold doL at hl
    split at hl
    · rcases List.mem_append.1 hl with q | q
      · exact h.l l (List.mem_of_mem_take q)
      · unfold pickL at q
        obtain ⟨i, _, rfl⟩ := List.mem_map.1 q
        rcases mem_getD (ls := ls.drop _) (i := i) with w | w
        · exact h.l _ (List.mem_of_mem_drop w)
        · rw [w]; simp
    · repeat' split at hl
      · exact h.l l (pop_mem hl)
      · rcases List.mem_append.1 hl with q | q
        · exact h.l l q
        · rw [List.mem_singleton] at q; rw [q]; exact to_
      · rcases List.mem_append.1 hl with q | q
        · exact h.l l q
        · rw [List.mem_singleton] at q; rw [q]; exact tl
      · exact h.l l hl
      · rcases List.mem_append.1 hl with q | q
        · exact h.l l q
        · rw [List.mem_singleton] at q; rw [q]; omega
      · rcases List.mem_append.1 hl with q | q
        · exact h.l l q
        · rw [List.mem_singleton] at q; rw [q]; omega
      · unfold farL at hl
        have hp : ∀ l ∈ popL ls, l.length ≤ 520 := fun l hl => h.l l (pop_mem hl)
        rcases List.mem_append.1 hl with q | q
        · split at q
          · unfold outI at q
            rcases List.mem_append.1 q with w | w
            · exact hp l (List.mem_of_mem_take w)
            · exact hp l (List.mem_of_mem_drop w)
          · exact hp l q
        · rw [List.mem_singleton] at q; rw [q]; exact top_ok hp _
  · intro l hl
    unfold doO at hl
    split at hl
    · exact h.o l hl
    · repeat' split at hl
      · rcases List.mem_append.1 hl with q | q
        · exact h.o l q
        · rw [List.mem_singleton] at q; rw [q]; exact tl
      · exact h.o l (pop_mem hl)
      · exact h.o l hl
theorem all_ok {c : Int} {ls os : List (List UInt8)} (h : Ok ls os) : Ok (allL c ls os) (allO c ls os) := by
  unfold allL allO
  by_cases he : allE c ls os = 0
  · rw [if_pos he, if_pos he]
    refine ⟨?_, (doL_ok h).1, (doL_ok h).2⟩
    unfold allE at he
    repeat' split at he
    · cases he
    · cases he
    · assumption
    · cases he
    · rename_i q; exact absurd he q
  · rw [if_neg he, if_neg he]; exact h
theorem push_ok {ls os : List (List UInt8)} {l : List UInt8} (h : Ok ls os) : Ok (pushL ls os l) os := by
  unfold pushL
  rcases pushE_cases ls os l with ⟨a, ce⟩ | ⟨a, b, ce⟩ | ⟨a, b, ce⟩
  · rw [ce, if_neg (by decide)]; exact h
  · rw [ce, if_neg (by decide)]; exact h
  · rw [ce, if_pos rfl]
    refine ⟨by rw [List.length_append, List.length_singleton]; have := h.n; omega, fun m hm => ?_, h.o⟩
    rcases List.mem_append.1 hm with q | q
    · exact h.l m q
    · rw [List.mem_singleton] at q; rw [q]; omega
theorem pop_ok {ls os : List (List UInt8)} (h : Ok ls os) : Ok (popL ls) os := ⟨by rw [popL_len]; have := h.n; omega, fun l hl => h.l l (pop_mem hl), h.o⟩
theorem new_ok {ls : List (List UInt8)} (h : newE ls = 0) : Ok ls [] := by
  unfold newE at h
  split at h
  · cases h
  · rename_i q
    split at h
    · cases h
    · rename_i w
      refine ⟨by rw [List.length_nil]; omega, fun l hl => ?_, fun l hl => by simp at hl⟩
      by_cases e : 520 < l.length
      · exact absurd (List.any_eq_true.2 ⟨l, hl, decide_eq_true e⟩) q
      · omega
def runC : List UInt8 → List (List UInt8) → List (List UInt8) → Option (List (List UInt8) × List (List UInt8))
  | [], ls, os => some (ls, os)
  | c :: cs, ls, os => if allE (c.toNat : Int) ls os = 0 then runC cs (allL (c.toNat : Int) ls os) (allO (c.toNat : Int) ls os) else none
def letters (s : List UInt8) : List (List UInt8) := s.map fun b => [b]
def doesV (a b cs : List UInt8) : Bool := match runC cs (letters a) [] with
  | none => false
  | some x => decide (x.1.flatten = b)
theorem al3 : doesV [1, 2, 3] [1, 3] [119] = true := by decide +kernel
structure ArgL (v : AVal) (ls : List (List UInt8)) (xs : List AVal) : Prop where
  rd : ∀ h, Rds h 1 v ls.length xs
  id : ownId v = none
  el : ∀ h, Els h (fun _ => False) xs ls
  len : ls.length ≤ maxLen
theorem argEl {v : AVal} {l : List UInt8} (ha : ArgBytes v l) (h : Hp) : El h (fun _ => False) v l :=
  ⟨ha.bytes h, fun j hj => by
    have := ha.below 0
    cases v with
    | sl id off len cap sz => exact absurd this (Nat.not_lt_zero _)
    | _ => cases hj⟩
theorem argL {v : AVal} (ha : Arg Try.prog 53 [v]) : ∃ ls xs, ArgL v ls xs := by
  have c22 : Try.prog.cellsOf 22 = 1 := by kernel_rfl
  have c5 : Try.prog.cellsOf 5 = 1 := by kernel_rfl
  rcases ha.slice_inv Try.underlying53 (by omega) with h | ⟨f, len, h, hl, hx⟩
  · injection h with h; subst h
    exact ⟨[], [], fun h => .nils, rfl, fun h => Els.nil _ _, Nat.zero_le _⟩
  · injection h with h
    subst h
    rw [c22] at hx ⊢
    have each : ∀ i, ∃ l : List UInt8, i < len → ArgBytes (f i) l := fun i => by
      by_cases hi : i < len
      · have := hx i hi
        rw [Nat.mul_one, cut_one] at this
        obtain ⟨l, h1, _⟩ := arg_bytes Try.underlying22 Try.underlying5 c5 this
        exact ⟨l, fun _ => h1⟩
      · exact ⟨[], fun q => absurd q hi⟩
    obtain ⟨b, hb⟩ := Classical.axiomOfChoice each
    refine ⟨(List.range len).map b, (List.range len).map f, fun h => ?_, rfl, fun h => ⟨by simp, fun j x l hx hl2 => ?_⟩, by simpa using hl⟩
    · rw [List.length_map, List.length_range]
      exact .isl f 0 len _ (by simp) (fun j hj => by simp)
    · rw [List.getElem?_map] at hx hl2
      cases hj : (List.range len)[j]? with
      | none => rw [hj] at hx; cases hx
      | some i =>
        rw [hj] at hx hl2
        injection hx with hx; injection hl2 with hl2
        subst hx; subst hl2
        have hi := (List.getElem?_eq_some_iff.1 hj).2
        have hjl := (List.getElem?_eq_some_iff.1 hj).1
        simp only [List.getElem_range] at hi
        subst hi
        rw [List.length_range] at hjl
        exact argEl (hb j hjl) h
def overB (l : List UInt8) : Bool := decide (600 < l.length)
def greatV (ls : List (List UInt8)) : Bool := ls.any overB || decide (150 < ls.length)
theorem over_false {ls : List (List UInt8)} (h : ls.any overB = false) : ∀ l ∈ ls, l.length ≤ 600 := fun l hl => by
  by_cases q : 600 < l.length
  · rw [List.any_eq_true.2 ⟨l, hl, decide_eq_true q⟩] at h; cases h
  · omega
set_option maxHeartbeats 4000000 in
theorem loop36 (Q : Post0) (ks : List Kf) (v w : AVal) (xs : List AVal) (ls : List (List UInt8)) (D : Nat → Prop) (h : Hp) (n : Nat) (hlen : ls.length ≤ 9223372036854775807) (hv : Rds h 1 v ls.length xs) (hel : Els h D xs ls)
    (hq : ∀ (x5 x6 x10 x17 x20 x21 x22 x30 : AVal), ls.any overB = false → Kont env 36 none Q ks (.exit 0) (v :: w :: AVal.junk :: AVal.junk :: .bool false :: x5 :: x6 :: AVal.junk :: .int .i64 (ls.length : Nat) :: .int .i64 (ls.length : Nat) :: x10 :: AVal.junk :: AVal.junk :: AVal.junk :: AVal.junk :: AVal.junk :: AVal.junk :: x17 :: AVal.junk :: AVal.junk :: x20 :: x21 :: x22 :: AVal.junk :: AVal.junk :: AVal.junk :: AVal.junk :: AVal.junk :: AVal.junk :: AVal.junk :: x30 :: AVal.junk :: AVal.junk :: AVal.junk :: AVal.junk :: AVal.junk :: AVal.junk :: AVal.junk :: AVal.junk :: AVal.junk :: []) h n)
    (hr : ∀ (x5 x6 x10 x17 x20 x21 x22 x30 : AVal) (z : AVal), ls.any overB = true → Kont env 36 none Q ks .ret (v :: w :: AVal.junk :: AVal.junk :: .bool true :: x5 :: x6 :: AVal.junk :: .int .i64 (ls.length : Nat) :: z :: x10 :: AVal.junk :: AVal.junk :: AVal.junk :: AVal.junk :: AVal.junk :: AVal.junk :: x17 :: AVal.junk :: AVal.junk :: x20 :: x21 :: x22 :: AVal.junk :: AVal.junk :: AVal.junk :: AVal.junk :: AVal.junk :: AVal.junk :: AVal.junk :: x30 :: AVal.junk :: AVal.junk :: AVal.junk :: AVal.junk :: AVal.junk :: AVal.junk :: AVal.junk :: AVal.junk :: AVal.junk :: []) h n) :
    ∀ (m i : Nat) (x5 x6 x10 x17 x20 x21 x22 x30 : AVal), i + m = ls.length → (ls.take i).any overB = false →
    Run env 36 none Q (.loop lp36_0) ks (v :: w :: AVal.junk :: AVal.junk :: .bool false :: x5 :: x6 :: AVal.junk :: .int .i64 (ls.length : Nat) :: .int .i64 (i : Nat) :: x10 :: AVal.junk :: AVal.junk :: AVal.junk :: AVal.junk :: AVal.junk :: AVal.junk :: x17 :: AVal.junk :: AVal.junk :: x20 :: x21 :: x22 :: AVal.junk :: AVal.junk :: AVal.junk :: AVal.junk :: AVal.junk :: AVal.junk :: AVal.junk :: x30 :: AVal.junk :: AVal.junk :: AVal.junk :: AVal.junk :: AVal.junk :: AVal.junk :: AVal.junk :: AVal.junk :: AVal.junk :: []) h n := by
  intro m
  induction m with
  | zero =>
    intro i x5 x6 x10 x17 x20 x21 x22 x30 hi hs
    have : i = ls.length := by omega
    subst this
    have hc : ¬ ((ls.length : Nat) : Int) < ((ls.length : Nat) : Int) := by omega
    rw [run_loop]
    simp only [lp36_0, loopsOf, Try.f36, Option.getD_some, fgr, bor, List.getD_cons_zero, hc, gE]
    rw [List.take_length] at hs
    exact hq _ _ _ _ _ _ _ _ hs
  | succ m ih =>
    intro i x5 x6 x10 x17 x20 x21 x22 x30 hi hs
    have hil : i < ls.length := by omega
    have hc : ((i : Nat) : Int) < ((ls.length : Nat) : Int) := by omega
    have hwr : IntKind.i64.wrap (((i : Nat) : Int) + 1) = ((i + 1 : Nat) : Int) := by rw [w64 (by omega) (by omega)]; omega
    obtain ⟨x, hx1, hx2⟩ := hel.get hil
    rw [run_loop]
    simp only [lp36_0, loopsOf, Try.f36, Option.getD_some, fgr, bor, List.getD_cons_zero, hc, gE]
    rw [opv_rd (hv.idx (j := i) u53 s22 rfl hil)]
    simp only [Nat.mul_one, gE]
    rw [opv_rd (hv.load (k := i) ti22 rfl hx1)]
    by_cases hov : 600 < ls[i].length
    · have hc2 : 600 < ((ls[i].length : Nat) : Int) := by omega
      simp only [fgr, builtin, bor, gt_iff_lt, hx2.1.bLen t22, hc2, gE]
      exact hr _ _ _ _ _ _ _ _ _ (List.any_eq_true.2 ⟨_, List.getElem_mem hil, decide_eq_true hov⟩)
    · have hc2 : ¬ 600 < ((ls[i].length : Nat) : Int) := by omega
      simp only [fgr, builtin, bor, wrapI, gt_iff_lt, hx2.1.bLen t22, hc2, hwr, gE]
      refine ih (i + 1) _ _ _ _ _ _ _ _ (by omega) ?_
      rw [List.take_add_one, List.getElem?_eq_getElem hil, Option.toList_some, List.any_append, hs]
      simp [overB, hov]
theorem f36 (v : AVal) (xs : List AVal) (ls : List (List UInt8)) (D : Nat → Prop) (h : Hp) (n : Nat) (hlen : ls.length ≤ 9223372036854775807) (hv : Rds h 1 v ls.length xs) (hel : Els h D xs ls) :
    Wp (callI env (evalW env) 36 [v, .nils]) h n fun v' h' n' => v' = .bool (greatV ls) ∧ h' = h ∧ n' = n := by
  refine wp_callI ff36 fi36 ?_
  simp only [fu36, Try.f36, Option.getD_some, List.replicate, fgr, builtin, Nat.reduceAdd, Nat.reduceSub, hv.bLen u53, gE]
  refine loop36 _ _ v .nils xs ls D h n hlen hv hel ?_ ?_ ls.length 0 _ _ _ _ _ _ _ _ (by omega) rfl
  · intro x5 x6 x10 x17 x20 x21 x22 x30 ha
    simp only [fgr, builtin, blr, gE]
    rw [run_loop]
    by_cases h150 : 150 < ls.length
    · have hc : 150 < ((ls.length : Nat) : Int) := by omega
      simp only [fgr, builtin, bor, doPick, Int.reduceLT, gt_iff_lt, hv.bLen u53, hc, greatV, ha, h150, gE]
    · have hc : ¬ 150 < ((ls.length : Nat) : Int) := by omega
      simp only [fgr, builtin, blr, bor, doPick, Int.reduceLT, gt_iff_lt, hv.bLen u53, hc, greatV, ha, h150, gE]
  · intro x5 x6 x10 x17 x20 x21 x22 x30 z ha
    simp only [core1, nth, Bool.true_or, and_self, greatV, ha]
set_option maxHeartbeats 2000000 in
theorem f77 (p : Nat) (k : Int) (ls os : List (List UInt8)) (D M : Nat → Prop) (h : Hp) (n : Nat) (hs : Stk h n D M p ls os) (hl : ls.length ≤ 100000) (hel : ∀ l ∈ ls, l.length ≤ 1000000) (hf : Free h n) :
    Wp (callI env (evalW env) 77 [.ptr p 0, .int .i64 k]) h n fun v' h' n' => ∃ s, v' = .tup [s, .int .i64 (topE ls k)] ∧ Bytes h' s (topL ls k) ∧ (∀ j, ownId s = some j → n ≤ j ∧ j < n') ∧ Old h h' n := by
  obtain ⟨vl, vo, xl, xo, sv, mp, ml, mo, mn⟩ := hs
  refine wp_callI ff77 fi77 ?_
  by_cases c0 : k < 0
  · have ce : topE ls k = 120 := if_neg (by omega)
    have cl : topL ls k = [] := if_neg (by omega)
    simp only [fu77, Try.f77, Option.getD_some, List.replicate, fgr, bor, doPick, Nat.reduceAdd, Nat.reduceSub, c0, gE]
    exact ⟨_, by rw [ce], by rw [cl]; exact .nils, fun j hj => (by cases hj), Old.refl _ _⟩
  simp only [fu77, Try.f77, Option.getD_some, List.replicate, tyr, fgr, bor, moved, Nat.reduceAdd, Nat.reduceSub, c0, gE]
  rw [opv_rd (Row.one (off := 0) sv.row rfl ti53 rfl)]
  by_cases c1 : ((ls.length : Nat) : Int) ≤ k
  · have ce : topE ls k = 120 := if_neg (by omega)
    have cl : topL ls k = [] := if_neg (by omega)
    simp only [fgr, builtin, bor, doPick, ge_iff_le, sv.l.rds.bLen u53, c1, gE]
    exact ⟨_, by rw [ce], by rw [cl]; exact .nils, fun j hj => (by cases hj), Old.refl _ _⟩
  obtain ⟨m, rfl⟩ : ∃ m : Nat, k = (m : Nat) := ⟨k.toNat, by omega⟩
  have ce : topE ls (m : Nat) = 0 := if_pos (by omega)
  have cl : topL ls (m : Nat) = ls.getD (ls.length - 1 - m) [] := by unfold topL; rw [if_pos (by omega), Int.toNat_natCast]
  obtain ⟨x, hx, hxe⟩ := elx sv.le (k := m) (by omega)
  have w1 : IntKind.i64.wrap (((ls.length : Nat) : Int) - 1) = ((ls.length - 1 : Nat) : Int) := by rw [w64 (by omega) (by omega)]; omega
  have w2 : IntKind.i64.wrap (((ls.length - 1 : Nat) : Int) - ((m : Nat) : Int)) = ((ls.length - 1 - m : Nat) : Int) := by rw [w64 (by omega) (by omega)]; omega
  have hml : (ls.getD (ls.length - 1 - m) []).length ≤ 1000000 := by
    rw [List.getD_eq_getElem?_getD, List.getElem?_eq_getElem (by omega)]
    exact hel _ (List.getElem_mem _)
  simp only [fgr, builtin, bor, doPick, ge_iff_le, sv.l.rds.bLen u53, c1, gE]
  refine run_draw ⟨rfl, ?_⟩
  simp only [tyr, moved, Nat.reduceAdd, gE]
  rw [fev_rd (Row.one (off := 0) sv.row rfl ti53 rfl)]
  simp only [tyr, moved, Nat.reduceAdd, gE]
  rw [fev_rd (Row.one (off := 0) sv.row rfl ti53 rfl)]
  simp only [builtin, bor, wrapI, Nat.reduceAdd, sv.l.rds.bLen u53, w1, w2, gE]
  rw [fev_rd (sv.l.rds.idx (j := ls.length - 1 - m) u53 s22 rfl (by omega))]
  simp only [Nat.reduceAdd, Nat.mul_one, gE]
  rw [fev_rd (sv.l.rds.load (k := ls.length - 1 - m) ti22 rfl hx)]
  simp only [hkr, Nat.reduceAdd, gE]
  refine fev_any hf (f73 x _ h n hxe.1 hml hf) fun v1 h1 n1 r1 x1 hn1 f1 ⟨b1, i1, o1⟩ => ?_
  simp only [fgr, Nat.reduceAdd, gE]
  refine ⟨(by (try simp (disch := first | assumption | omega) only [fine, gF]); repeat' (first | rfl | exact (Bool.or_eq_true _ _).mpr (.inr rfl) | refine (Bool.and_eq_true _ _).mpr ⟨?_, ?_⟩)), ?_⟩
  exact ⟨v1, by rw [ce], by rw [cl]; exact b1, i1, o1⟩
theorem row_of_upd {h : Hp} {p e : Nat} {l : List AVal} : Row (upd h p (some (.row (.l l) e))) p l := ⟨e, upd_same _ _ _⟩
theorem pop_ref {h : Hp} {n : Nat} {D M : Nat → Prop} {p e : Nat} {vl vo : AVal} {xl xo : List AVal} {ls os : List (List UInt8)} (sv : StkV h n D p vl vo xl xo ls os) (hp : h p = some (.row (.l [vl, vo]) e)) (h0 : 0 < ls.length) (mp : M p) (ml : ∀ j, ownId vl = some j → M j) (mo : ∀ j, ownId vo = some j → M j) (mn : ∀ j, M j → j < n ∧ ¬ D j) :
    Stk (upd h p (some (.row (.l [subOf 0 (ls.length - 1) vl, vo]) e))) n D M p (popL ls) os ∧ ∀ j, j ≠ p → upd h p (some (.row (.l [subOf 0 (ls.length - 1) vl, vo]) e)) j = h j := by
  have ho : ∀ j, j ≠ p → upd h p (some (.row (.l [subOf 0 (ls.length - 1) vl, vo]) e)) j = h j := fun j hj => upd_ne _ _ hj
  have hsi : ownId (subOf 0 (ls.length - 1) vl) = ownId vl := sub_id _ _ _
  refine ⟨⟨subOf 0 (ls.length - 1) vl, vo, xl.take (ls.length - 1), xo, ⟨row_of_upd, ?_, ?_, sv.o.keep fun j hj => ho j (sv.op j hj).1, sv.oe.mono (fun _ q => q) (fun j hj => ho j fun q => sv.pd (by rw [← q]; exact hj)), sv.pn, sv.dn, sv.pd, fun j hj => ?_, fun j hj => ?_⟩, mp, fun j hj => ?_, mo, mn⟩, ho⟩
  · have := sv.l.pre (hi := ls.length - 1) (by omega)
    rw [Nat.mul_one] at this
    unfold popL
    rw [List.length_take, Nat.min_eq_left (by omega)]
    exact this.keep fun j hj => ho j (by rw [hsi] at hj; exact (sv.lp j hj).1)
  · exact (sv.le.take _).mono (fun _ q => q) (fun j hj => ho j fun q => sv.pd (by rw [← q]; exact hj))
  · rw [hsi] at hj; exact sv.lp j hj
  · rw [hsi]; exact sv.op j hj
  · rw [hsi] at hj; exact ml j hj
set_option maxHeartbeats 2000000 in
theorem f76 (p : Nat) (ls os : List (List UInt8)) (D M : Nat → Prop) (h : Hp) (n : Nat) (hs : Stk h n D M p ls os) (hl : ls.length ≤ 100000) (hel : ∀ l ∈ ls, l.length ≤ 1000000) (hf : Free h n) :
    Wp (callI env (evalW env) 76 [.ptr p 0]) h n fun v' h' n' => (∃ s, v' = .tup [s, .int .i64 (topE ls 0)] ∧ Bytes h' s (topL ls 0) ∧ (∀ j, ownId s = some j → n ≤ j ∧ j < n')) ∧ Stk h' n' D M p (popL ls) os ∧ Chg h n D M h' n' D M := by
  refine wp_callI ff76 fi76 ?_
  simp only [fu76, Try.f76, Option.getD_some, List.replicate, fgr, hkr, Nat.reduceSub, gE]
  refine opv_callf hf (f77 p 0 ls os D M h n hs hl hel hf) fun v1 h1 n1 hn1 f1 ⟨s, e1, b1, i1, o1⟩ => ?_
  subst e1
  have hs1 := hs.old hn1 o1
  by_cases c : ls = []
  · subst c
    have ce : topE [] 0 = 120 := rfl
    simp only [fgr, bor, Int.reduceEq, ce, gE]
    refine ⟨⟨.nils, rfl, .nils, fun j hj => (by cases hj)⟩, hs1, old_chg f1 hn1 o1⟩
  have hpos := List.length_pos_iff.2 c
  have ce : topE ls 0 = 0 := if_pos (by omega)
  have w1 : IntKind.i64.wrap (((ls.length : Nat) : Int) - 1) = ((ls.length - 1 : Nat) : Int) := by rw [w64 (by omega) (by omega)]; omega
  simp only [fgr, bor, ce, gE]
  have hpn : p < n := by obtain ⟨_, _, _, _, sv0, _⟩ := hs; exact sv0.pn
  obtain ⟨vl, vo, xl, xo, sv, mp, ml, mo, mn⟩ := hs1
  obtain ⟨e, he⟩ := sv.row
  refine run_draw ⟨rfl, ?_⟩
  simp only [tyr, moved, Nat.reduceAdd, gE]
  rw [fev_rd (Row.one (off := 0) sv.row rfl ti53 rfl)]
  simp only [tyr, moved, Nat.reduceAdd, gE]
  rw [fev_rd (Row.one (off := 0) sv.row rfl ti53 rfl)]
  simp only [opt, builtin, bor, wrapI, Nat.reduceAdd, sv.l.rds.bLen u53, w1, gE]
  rw [fev_rd (sv.l.rds.head_rd sv.l.roomy u53 s22 rfl (by omega))]
  simp only [tyr, moved, Nat.reduceAdd, gE]
  have hk := (sv.l.pre (hi := ls.length - 1) (by omega)).rds.kind
  refine fev_wr (Row.write he ti53 (by rw [hk.1]; rfl) (by show 0 + 1 ≤ 2; omega) (by rw [hk.1]; simp [hk.2.1])) ?_
  rw [hk.1, show splice [vl, vo] 0 [subOf 0 (ls.length - 1) vl] = [subOf 0 (ls.length - 1) vl, vo] from rfl]
  obtain ⟨s2, o2⟩ := pop_ref sv he hpos mp ml mo mn
  simp only [fgr, Nat.reduceAdd, gE]
  refine ⟨(by (try simp (disch := first | assumption | omega) only [fine, gF]); repeat' (first | rfl | exact (Bool.or_eq_true _ _).mpr (.inr rfl) | refine (Bool.and_eq_true _ _).mpr ⟨?_, ?_⟩)), ?_⟩
  refine ⟨⟨s, rfl, b1.keep fun j hj => o2 j (by have := i1 j hj; omega), i1⟩, s2, ⟨by omega, f1.upd (by omega), fun _ q => q, fun _ q => .inl q, fun _ q => .inl q, fun j hj hm => ?_⟩⟩
  rw [o2 j (fun q => hm (by rw [q]; exact mp))]; exact o1 j hj
set_option maxHeartbeats 2000000 in
theorem f78 (p : Nat) (ls os : List (List UInt8)) (D M : Nat → Prop) (h : Hp) (n : Nat) (hs : Stk h n D M p ls os) (hl : ls.length ≤ 100000) (hel : ∀ l ∈ ls, l.length ≤ 900000) (hf : Free h n) :
    Wp (callI env (evalW env) 78 [.ptr p 0]) h n fun v' h' n' => v' = .tup [.int .i64 (numV ls), .int .i64 (numE ls)] ∧ Stk h' n' D M p (numL ls) os ∧ Ch2 h n M h' n' M := by
  refine wp_callI ff78 fi78 ?_
  simp only [fu78, Try.f78, Option.getD_some, List.replicate, fgr, hkr, Nat.reduceSub, gE]
  refine opv_callf hf (f77 p 0 ls os D M h n hs hl (fun l hl => by have := hel l hl; omega) hf) fun v1 h1 n1 hn1 f1 ⟨s, e1, b1, i1, o1⟩ => ?_
  subst e1
  have hs1 := hs.old hn1 o1
  by_cases c : ls = []
  · subst c
    have ce : topE [] 0 = 120 := rfl
    simp only [fgr, bor, Int.reduceEq, ce, gE]
    exact ⟨rfl, hs1, .of f1 hn1 o1⟩
  have hE : numE ls = decE (top ls) := if_neg c
  have hV : numV ls = decN (top ls) := if_neg c
  simp only [fgr, hkr, bor, topE0 c, gE]
  have htl := top_len (m := 900000) hel 0
  have hbel : Below0 n1 s := by
    cases s <;> first | trivial | (exact (i1 _ rfl).2)
  refine opv_callf f1 (f21 s (topL ls 0) h1 n1 b1 hbel f1 (by omega)) fun v2 h2 n2 hn2 f2 ⟨e2, o2⟩ => ?_
  subst e2
  have hs2 := hs1.old hn2 o2
  have o12 : Old h h2 n := fun j hj => (o2 j (by omega)).trans (o1 j hj)
  rcases decE_cases (topL ls 0) with d | ⟨d, d2⟩
  · have d' : decE (top ls) = 0 := d
    have hpos := List.length_pos_iff.2 c
    have w1 : IntKind.i64.wrap (((ls.length : Nat) : Int) - 1) = ((ls.length - 1 : Nat) : Int) := by rw [w64 (by omega) (by omega)]; omega
    simp only [fgr, bor, d, gE]
    have hpn : p < n := by obtain ⟨_, _, _, _, sv0, _⟩ := hs; exact sv0.pn
    obtain ⟨vl, vo, xl, xo, sv, mp, ml, mo, mn⟩ := hs2
    obtain ⟨e, he⟩ := sv.row
    refine run_draw ⟨rfl, ?_⟩
    simp only [tyr, moved, Nat.reduceAdd, gE]
    rw [fev_rd (Row.one (off := 0) sv.row rfl ti53 rfl)]
    simp only [tyr, moved, Nat.reduceAdd, gE]
    rw [fev_rd (Row.one (off := 0) sv.row rfl ti53 rfl)]
    simp only [opt, builtin, bor, wrapI, Nat.reduceAdd, sv.l.rds.bLen u53, w1, gE]
    rw [fev_rd (sv.l.rds.head_rd sv.l.roomy u53 s22 rfl (by omega))]
    simp only [tyr, moved, Nat.reduceAdd, gE]
    have hk := (sv.l.pre (hi := ls.length - 1) (by omega)).rds.kind
    refine fev_wr (Row.write he ti53 (by rw [hk.1]; rfl) (by show 0 + 1 ≤ 2; omega) (by rw [hk.1]; simp [hk.2.1])) ?_
    rw [hk.1, show splice [vl, vo] 0 [subOf 0 (ls.length - 1) vl] = [subOf 0 (ls.length - 1) vl, vo] from rfl]
    obtain ⟨s3, o3⟩ := pop_ref sv he hpos mp ml mo mn
    simp only [fgr, Nat.reduceAdd, gE]
    refine ⟨(by (try simp (disch := first | assumption | omega) only [fine, gF]); repeat' (first | rfl | exact (Bool.or_eq_true _ _).mpr (.inr rfl) | refine (Bool.and_eq_true _ _).mpr ⟨?_, ?_⟩)), ?_⟩
    refine ⟨by rw [hV, hE, d']; rfl, ?_, ⟨by omega, f2.upd (by omega), fun _ q => .inl q, fun j hj hm => ?_⟩⟩
    · unfold numL
      rw [hE, d', if_pos rfl]; exact s3
    · rw [o3 j (fun q => hm (by rw [q]; exact mp))]; exact o12 j hj
  · have d' : decE (top ls) = 110 := d
    simp only [fgr, bor, Int.reduceEq, d, gE]
    refine ⟨by rw [hV, hE, d', show decN (top ls) = 0 from d2], ?_, .of f2 (by omega) o12⟩
    unfold numL
    rw [hE, d', if_neg (by decide)]; exact hs2
theorem put_ref {h4 h5 : Hp} {n4 n5 : Nat} {D M E : Nat → Prop} {p e : Nat} {vl vo s' v2 : AVal} {xl xo : List AVal} {ls os : List (List UInt8)} {l : List UInt8} (sv : StkV h4 n4 D p vl vo xl xo ls os) (mp : M p) (ml : ∀ j, ownId vl = some j → M j) (mo : ∀ j, ownId vo = some j → M j) (mn : ∀ j, M j → j < n4 ∧ ¬ D j)
    (hv2 : El h4 E v2 l) (hE : ∀ j, E j → j < n4 ∧ ¬ M j) (l5 : Lst h5 22 1 s' (ls.length + 1) (xl ++ [v2])) (i5 : ownId s' = ownId vl ∨ ownId s' = some n4 ∧ n4 < n5) (o5 : ∀ j, j < n4 → ownId vl ≠ some j → h5 j = h4 j) (f5 : Free h5 n5) (hn5 : n4 ≤ n5) :
    ∃ M', Stk (upd h5 p (some (.row (.l [s', vo]) e))) n5 (fun j => D j ∨ E j) M' p (ls ++ [l]) os ∧ Ch2 h4 n4 M (upd h5 p (some (.row (.l [s', vo]) e))) n5 M' := by
  have hpn := sv.pn
  have hsp : ownId s' ≠ some p := fun q => by
    rcases i5 with r | ⟨r, _⟩
    · rw [r] at q; exact (sv.lp p q).1 rfl
    · rw [r] at q; injection q with q; omega
  have sv' := sv.more (D' := fun j => D j ∨ E j) (fun j q => .inl q) (fun j q => q.elim (sv.dn j) (fun q => (hE j q).1)) (fun j q => by
    rcases q with q | q
    · exact ⟨fun e => sv.pd (by rw [← e]; exact q), fun e => (sv.lp j e).2 q, fun e => (sv.op j e).2.1 q⟩
    · exact ⟨fun e => (hE j q).2 (by rw [e]; exact mp), fun e => (hE j q).2 (ml j e), fun e => (hE j q).2 (mo j e)⟩)
  have ho : ∀ j, j < n4 → j ≠ p → ownId vl ≠ some j → upd h5 p (some (.row (.l [s', vo]) e)) j = h4 j := fun j q1 q2 q3 => by rw [upd_ne _ _ q2]; exact o5 j q1 q3
  have hv2' : El (upd h5 p (some (.row (.l [s', vo]) e))) (fun j => D j ∨ E j) v2 l := hv2.mono (fun j q => .inr q) (fun j q => ho j (hE j q).1 (fun e => (hE j q).2 (by rw [e]; exact mp)) (fun e => (hE j q).2 (ml j e)))
  obtain ⟨M', hs4, ch4⟩ := put_stk (ms := [l]) sv' mp ml mo (fun j hj => ⟨(mn j hj).1, fun q => q.elim (mn j hj).2 (fun q => (hE j q).2 hj)⟩) (l5.keep fun j hj => upd_ne _ _ (fun q => hsp (by rw [hj, q]))) (row_of_upd (e := e)) i5 ho (f5.upd (by omega)) hn5 (Els.one hv2') trivial
  exact ⟨M', hs4, ⟨ch4.nx, ch4.fr, ch4.m', ch4.old⟩⟩
theorem b_live {h : Hp} {n : Nat} {v : AVal} {l : List UInt8} (hb : Bytes h v l) (hf : Free h n) : ∀ j, ownId v = some j → j < n := fun j hj => by
  cases hb with
  | nils => cases hj
  | isl => cases hj
  | sl id off cap c e l hh hs' hc =>
    injection hj with hj; subst hj
    by_cases q : id < n
    · exact q
    · rw [hf id (by omega)] at hh; cases hh
end Go.Am.Ytmoplhbncjicbaa
set_option linter.unusedSimpArgs false
set_option linter.unusedVariables false
set_option linter.defProp false
set_option maxRecDepth 10000
namespace Go.Am.Ytmoplhbncjicbaa
open Go Go.Am Go.Proofs
set_option maxHeartbeats 4000000 in
theorem f75 (p : Nat) (v : AVal) (l : List UInt8) (ls os : List (List UInt8)) (D M : Nat → Prop) (h : Hp) (n : Nat) (hs : Stk h n D M p ls os) (hl : ls.length + os.length ≤ 100) (hb : Bytes h v l) (hbm : ∀ j, ownId v = some j → ¬ M j) (hf : Free h n) :
  Wp (callI env (evalW env) 75 [.ptr p 0, v]) h n fun v' h' n' => v' = .int .i64 (pushE ls os l) ∧ ∃ D' M', Stk h' n' D' M' p (pushL ls os l) os ∧ Chg h n D M h' n' D' M' := by
 refine wp_callI ff75 fi75 ?_
 rcases pushE_cases ls os l with ⟨a, ce⟩ | ⟨a, b, ce⟩ | ⟨a, b, ce⟩
 ·have c1 : 520 < ((l.length : Nat) : Int) := by omega
  simp only [fu75, Try.f75, Option.getD_some, List.replicate, fgr, builtin, bor, Nat.reduceAdd, Nat.reduceSub, gt_iff_lt, hb.bLen t22, c1, gE]
  refine ⟨by rw [ce], D, M, ?_, Chg.refl hf⟩
  unfold pushL
  rw [ce, if_neg (by decide)]; exact hs
 ·have c1 : ¬ 520 < ((l.length : Nat) : Int) := by omega
  have hs0 := hs
  obtain ⟨vl, vo, xl, xo, sv, mp, ml, mo, mn⟩ := hs
  have w1 : IntKind.i64.wrap (((ls.length : Nat) : Int) + ((os.length : Nat) : Int)) = ((ls.length + os.length : Nat) : Int) := by rw [w64 (by omega) (by omega)]; omega
  have c2 : 100 ≤ ((ls.length + os.length : Nat) : Int) := by omega
  simp only [fu75, Try.f75, Option.getD_some, List.replicate, fgr, builtin, bor, Nat.reduceAdd, Nat.reduceSub, gt_iff_lt, hb.bLen t22, c1, gE]
  refine run_draw ⟨rfl, ?_⟩
  simp only [tyr, moved, Nat.reduceAdd, gE]
  rw [fev_rd (Row.one (off := 0) sv.row rfl ti53 rfl)]
  simp only [tyr, builtin, moved, Nat.reduceAdd, sv.l.rds.bLen u53, gE]
  rw [fev_rd (Row.one (off := 1) sv.row rfl ti53 rfl)]
  simp only [fgr, builtin, bor, wrapI, Nat.reduceAdd, ge_iff_le, sv.o.rds.bLen u53, w1, c2, gE]
  refine ⟨(by (try simp (disch := first | assumption | omega) only [fine, gF]); repeat' (first | rfl | exact (Bool.or_eq_true _ _).mpr (.inr rfl) | refine (Bool.and_eq_true _ _).mpr ⟨?_, ?_⟩)), ?_⟩
  refine ⟨by rw [ce], D, M, ?_, Chg.refl hf⟩
  unfold pushL
  rw [ce, if_neg (by decide)]; exact hs0
 ·have c1 : ¬ 520 < ((l.length : Nat) : Int) := by omega
  have hs0 := hs
  obtain ⟨vl, vo, xl, xo, sv, mp, ml, mo, mn⟩ := hs
  obtain ⟨er, hrow⟩ := sv.row
  have w1 : IntKind.i64.wrap (((ls.length : Nat) : Int) + ((os.length : Nat) : Int)) = ((ls.length + os.length : Nat) : Int) := by rw [w64 (by omega) (by omega)]; omega
  have c2 : ¬ 100 ≤ ((ls.length + os.length : Nat) : Int) := by omega
  simp only [fu75, Try.f75, Option.getD_some, List.replicate, fgr, builtin, bor, Nat.reduceAdd, Nat.reduceSub, gt_iff_lt, hb.bLen t22, c1, gE]
  refine run_draw ⟨rfl, ?_⟩
  simp only [tyr, moved, Nat.reduceAdd, gE]
  rw [fev_rd (Row.one (off := 0) sv.row rfl ti53 rfl)]
  simp only [tyr, builtin, moved, Nat.reduceAdd, sv.l.rds.bLen u53, gE]
  rw [fev_rd (Row.one (off := 1) sv.row rfl ti53 rfl)]
  simp only [fgr, builtin, bor, wrapI, Nat.reduceAdd, ge_iff_le, sv.o.rds.bLen u53, w1, c2, gE]
  refine ⟨(by (try simp (disch := first | assumption | omega) only [fine, gF]); repeat' (first | rfl | exact (Bool.or_eq_true _ _).mpr (.inr rfl) | refine (Bool.and_eq_true _ _).mpr ⟨?_, ?_⟩)), ?_⟩
  refine run_draw ⟨rfl, ?_⟩
  simp only [tyr, moved, Nat.reduceAdd, gE]
  rw [fev_rd (Row.one (off := 0) sv.row rfl ti53 rfl)]
  simp only [hkr, Nat.reduceAdd, gE]
  have hS : ∀ j, ownId v = some j → decide (ownId v = some j) = true := fun j hj => decide_eq_true hj
  have hbl := b_live hb hf
  refine fev_in (fun j => decide (ownId v = some j)) hf (f73 v l _ n (hb.keep fun j hj => only_in (hS j hj)) (by omega) hf.only) fun v3 h3 n3 r3 w3 hr hn3 f3 ⟨b3, i3, o3⟩ a3 q3 cr3 cw3 => ?_
  have b3 : Bytes h3 v3 l := b3.keep fun j hj => a3 j (.inr (i3 j hj).1)
  have o3 : Old h h3 n := fun j hj => by
   by_cases q : ownId v = some j
   ·rw [a3 j (.inl (hS j q)), o3 j hj, only_in (hS j q)]
   ·exact q3 j hj (decide_eq_false q)
  have hpn : p < n := sv.pn
  have xp : p ∉ w3 := not_in cw3 (decide_eq_false fun q => hbm p q mp)
  simp only [Nat.reduceAdd, gE]
  rw [bs22 v3 b3.kind]
  refine fev_row' ti22 f3 fun h4 g4 o4 f4 => ?_
  have o4' : Old h h4 n := fun j hj => by rw [o4 j (by omega), o3 j hj]
  have hs4 := hs0.old (n' := n3 + 1) (by omega) o4'
  have sv4 : StkV h4 (n3 + 1) D p vl vo xl xo ls os := sv.keep (by omega) (o4' p sv.pn) (fun j hj => o4' j (mn j (ml j hj)).1) (fun j hj => o4' j (mn j (mo j hj)).1) (fun j hj => o4' j (sv.dn j hj))
  simp only [builtin, Nat.reduceAdd, gE]
  refine fev_any f4 (wp_lst_append (i := ⟨.slice 5, 1, 24, .nils⟩) (e := 22) (Q1 := fun v' h' n' => n3 + 1 ≤ n' ∧ Free h' n' ∧ Lst h' 22 1 v' (ls.length + 1) (xl ++ [v3]) ∧ (ownId v' = ownId vl ∨ ownId v' = some (n3 + 1) ∧ n3 + 1 < n') ∧ (∀ j, j < n3 + 1 → ownId vl ≠ some j → h' j = h4 j)) sv4.l (row_rds g4 rfl) u53 u53 ti22 (by simp [b3.kind.2.1]) (by decide) (by show 2 * (ls.length + 1) * 24 ≤ _; omega) (by omega) f4 fun v' h' n' a b c d e => ⟨a, b, c, d, e⟩) fun v5 h5 n5 r5 w5 hn5 f5 ⟨_, _, l5, i5, o5⟩ => ?_
  have hp5 : h5 p = some (.row (.l [vl, vo]) er) := by rw [o5 p (by have := sv.pn; omega) (fun q => (sv.lp p q).1 rfl), o4' p sv.pn]; exact hrow
  have hk := l5.rds.kind
  simp only [tyr, moved, Nat.reduceAdd, gE]
  refine fev_wr (Row.write hp5 ti53 (by rw [hk.1]; rfl) (by show 0 + 1 ≤ 2; omega) (by rw [hk.1]; simp [hk.2.1])) ?_
  rw [hk.1, show splice [vl, vo] 0 [v5] = [v5, vo] from rfl]
  obtain ⟨M', s6, c6⟩ := put_ref (e := er) (E := fun j => ownId v3 = some j) sv4 mp ml mo (fun j hj => ⟨by have := (mn j hj).1; omega, (mn j hj).2⟩) ⟨b3.keep fun j hj => o4 j (by have := (i3 j hj).2; omega), fun j q => q⟩ (fun j q => ⟨by have := (i3 j q).2; omega, fun w => by have := (i3 j q).1; have := (mn j w).1; omega⟩) l5 i5 o5 f5 hn5
  simp only [fgr, Nat.reduceAdd, gE]
  refine ⟨(by (try simp (disch := first | assumption | omega) only [fine, gF]); repeat' (first | rfl | exact (Bool.or_eq_true _ _).mpr (.inr rfl) | refine (Bool.and_eq_true _ _).mpr ⟨?_, ?_⟩)), ?_⟩
  refine ⟨by rw [ce], fun j => D j ∨ ownId v3 = some j, M', ?_, ⟨by omega, c6.fr, fun j q => .inl q, fun j q => q.elim .inl (fun q => .inr (i3 j q).1), fun j q => (c6.m' j q).elim .inl (fun q => .inr (by omega)), fun j hj hm => ?_⟩⟩
  ·unfold pushL
   rw [ce, if_pos rfl]; exact s6
  ·rw [c6.old j (by omega) hm]; exact o4' j hj
section
variable {h4 h5 : Hp} {n4 n5 : Nat} {D D' M : Nat → Prop} {p e : Nat} {vl vo s' : AVal} {xl xo xs : List AVal} {ls os ms : List (List UInt8)}
theorem set0 (sv : StkV h4 n4 D p vl vo xl xo ls os) (mp : M p) (ml : ∀ j, ownId vl = some j → M j) (mo : ∀ j, ownId vo = some j → M j) (mn : ∀ j, M j → j < n4 ∧ ¬ D j)
  (hD : ∀ j, D j → D' j) (hD' : ∀ j, D' j → j < n5 ∧ ¬ M j ∧ ownId s' ≠ some j) (l5 : Lst h5 22 1 s' ms.length xs) (e5 : Els h5 D' xs ms) (i5 : ∀ j, ownId s' = some j → ownId vl = some j ∨ n4 ≤ j ∧ j < n5)
  (o5 : ∀ j, j < n4 → ownId vl ≠ some j → h5 j = h4 j) (f5 : Free h5 n5) (hn5 : n4 ≤ n5) :
  ∃ M', Stk (upd h5 p (some (.row (.l [s', vo]) e))) n5 D' M' p ms os ∧ Ch2 h4 n4 M (upd h5 p (some (.row (.l [s', vo]) e))) n5 M' ∧ ∀ j, M' j → j = p ∨ ownId s' = some j ∨ ownId vo = some j := by
 have hpn := sv.pn
 have hsp : ∀ j, ownId s' = some j → j ≠ p := fun j q w => by
  subst w
  rcases i5 j q with r | r
  ·exact (sv.lp j r).1 rfl
  ·omega
 have hDp : ∀ j, D' j → j ≠ p := fun j q w => (hD' j q).2.1 (by rw [w]; exact mp)
 have hoo : ∀ j, ownId vo = some j → upd h5 p (some (.row (.l [s', vo]) e)) j = h4 j := fun j q => by
  rw [upd_ne _ _ (sv.op j q).1]; exact o5 j (mn j (mo j q)).1 (sv.op j q).2.2
 have hdd : ∀ j, D j → upd h5 p (some (.row (.l [s', vo]) e)) j = h4 j := fun j q => by
  rw [upd_ne _ _ (fun w => sv.pd (by rw [← w]; exact q))]; exact o5 j (sv.dn j q) (fun w => (sv.lp j w).2 q)
 refine ⟨fun j => j = p ∨ ownId s' = some j ∨ ownId vo = some j, ⟨s', vo, xs, xo, ⟨row_of_upd, l5.keep fun j q => upd_ne _ _ (hsp j q), e5.mono (fun _ q => q) (fun j q => upd_ne _ _ (hDp j q)), sv.o.keep hoo, sv.oe.mono hD hdd, by omega, fun j q => (hD' j q).1, fun q => hDp p q rfl, fun j q => ⟨hsp j q, fun w => (hD' j w).2.2 q⟩, fun j q => ⟨(sv.op j q).1, fun w => (hD' j w).2.1 (mo j q), fun w => ?_⟩⟩, .inl rfl, fun j q => .inr (.inl q), fun j q => .inr (.inr q), fun j q => ?_⟩, ⟨hn5, f5.upd (by omega), fun j q => ?_, fun j hj hm => ?_⟩, fun j q => q⟩
 ·rcases i5 j w with r | r
  ·exact (sv.op j q).2.2 r
  ·have := (mn j (mo j q)).1; omega
 ·rcases q with q | q | q
  ·rw [q]; exact ⟨by omega, fun w => hDp p w rfl⟩
  ·exact ⟨(i5 j q).elim (fun r => by have := (mn j (ml j r)).1; omega) (fun r => r.2), fun w => (hD' j w).2.2 q⟩
  ·exact ⟨by have := (mn j (mo j q)).1; omega, fun w => (hD' j w).2.1 (mo j q)⟩
 ·rcases q with q | q | q
  ·rw [q]; exact .inl mp
  ·exact (i5 j q).elim (fun r => .inl (ml j r)) (fun r => .inr r.1)
  ·exact .inl (mo j q)
 ·rw [upd_ne _ _ (fun w => hm (by rw [w]; exact mp))]; exact o5 j hj (fun w => hm (ml j w))
theorem set1 (sv : StkV h4 n4 D p vl vo xl xo ls os) (mp : M p) (ml : ∀ j, ownId vl = some j → M j) (mo : ∀ j, ownId vo = some j → M j) (mn : ∀ j, M j → j < n4 ∧ ¬ D j)
  (hD : ∀ j, D j → D' j) (hD' : ∀ j, D' j → j < n5 ∧ ¬ M j ∧ ownId s' ≠ some j) (l5 : Lst h5 22 1 s' ms.length xs) (e5 : Els h5 D' xs ms) (i5 : ∀ j, ownId s' = some j → ownId vo = some j ∨ n4 ≤ j ∧ j < n5)
  (o5 : ∀ j, j < n4 → ownId vo ≠ some j → h5 j = h4 j) (f5 : Free h5 n5) (hn5 : n4 ≤ n5) :
  ∃ M', Stk (upd h5 p (some (.row (.l [vl, s']) e))) n5 D' M' p ls ms ∧ Ch2 h4 n4 M (upd h5 p (some (.row (.l [vl, s']) e))) n5 M' ∧ ∀ j, M' j → j = p ∨ ownId vl = some j ∨ ownId s' = some j := by
 have hpn := sv.pn
 have hsp : ∀ j, ownId s' = some j → j ≠ p := fun j q w => by
  subst w
  rcases i5 j q with r | r
  ·exact (sv.op j r).1 rfl
  ·omega
 have hDp : ∀ j, D' j → j ≠ p := fun j q w => (hD' j q).2.1 (by rw [w]; exact mp)
 have hll : ∀ j, ownId vl = some j → upd h5 p (some (.row (.l [vl, s']) e)) j = h4 j := fun j q => by
  rw [upd_ne _ _ (sv.lp j q).1]; exact o5 j (mn j (ml j q)).1 (fun w => (sv.op j w).2.2 q)
 have hdd : ∀ j, D j → upd h5 p (some (.row (.l [vl, s']) e)) j = h4 j := fun j q => by
  rw [upd_ne _ _ (fun w => sv.pd (by rw [← w]; exact q))]; exact o5 j (sv.dn j q) (fun w => (sv.op j w).2.1 q)
 refine ⟨fun j => j = p ∨ ownId vl = some j ∨ ownId s' = some j, ⟨vl, s', xl, xs, ⟨row_of_upd, sv.l.keep hll, sv.le.mono hD hdd, l5.keep fun j q => upd_ne _ _ (hsp j q), e5.mono (fun _ q => q) (fun j q => upd_ne _ _ (hDp j q)), by omega, fun j q => (hD' j q).1, fun q => hDp p q rfl, fun j q => ⟨(sv.lp j q).1, fun w => (hD' j w).2.1 (ml j q)⟩, fun j q => ⟨hsp j q, fun w => (hD' j w).2.2 q, fun w => ?_⟩⟩, .inl rfl, fun j q => .inr (.inl q), fun j q => .inr (.inr q), fun j q => ?_⟩, ⟨hn5, f5.upd (by omega), fun j q => ?_, fun j hj hm => ?_⟩, fun j q => q⟩
 ·rcases i5 j q with r | r
  ·exact (sv.op j r).2.2 w
  ·have := (mn j (ml j w)).1; omega
 ·rcases q with q | q | q
  ·rw [q]; exact ⟨by omega, fun w => hDp p w rfl⟩
  ·exact ⟨by have := (mn j (ml j q)).1; omega, fun w => (hD' j w).2.1 (ml j q)⟩
  ·exact ⟨(i5 j q).elim (fun r => by have := (mn j (mo j r)).1; omega) (fun r => r.2), fun w => (hD' j w).2.2 q⟩
 ·rcases q with q | q | q
  ·rw [q]; exact .inl mp
  ·exact .inl (ml j q)
  ·exact (i5 j q).elim (fun r => .inl (mo j r)) (fun r => .inr r.1)
 ·rw [upd_ne _ _ (fun w => hm (by rw [w]; exact mp))]; exact o5 j hj (fun w => hm (mo j w))
end
theorem b78 (x y : AVal) (hx : x.cells = [x] ∧ oneCell x = true ∧ isJunk x = false) (hy : y.cells = [y] ∧ oneCell y = true ∧ isJunk y = false) : build env 78 [(0, x), (1, y)] = M.pure (.agg [x, y]) := by
 cases x with
 | agg l => cases hx.2.1
 | tup l => cases hx.2.1
 | junk => cases hx.2.1
 | _ =>
  cases y with
  | agg l => cases hy.2.1
  | tup l => cases hy.2.1
  | junk => cases hy.2.1
  | _ => rfl
def doneE (c : Int) (ls os : List (List UInt8)) : Int := if (ls.length : Int) < leastV c then 120 else doE c ls os
def DonePost (c : Int) (ls os : List (List UInt8)) (D : Nat → Prop) (h : Hp) (n : Nat) (v' : AVal) (h' : Hp) (n' : Nat) : Prop :=
 Old h h' n ∧ ((doneE c ls os ≠ 0 ∧ v' = .tup [.nilp, .int .i64 (doneE c ls os)]) ∨ (doneE c ls os = 0 ∧ ∃ q D' M', v' = .tup [.ptr q 0, .int .i64 0] ∧ Stk h' n' D' M' q (doL c ls os) (doO c ls os) ∧ (∀ j, D j → D' j) ∧ (∀ j, D' j → D j ∨ n ≤ j) ∧ ∀ j, M' j → n ≤ j))
def lettersOf (ix : List Nat) : List UInt8 := ix.map fun i => UInt8.ofNat (97 + i)
set_option maxHeartbeats 4000000 in
theorem loop104 (Q : Post0) (ks : List Kf) (q n0 : Nat) (ix : List Nat) (x0 c k7 t8 v10 : AVal) (ys : List AVal) (base last os : List (List UInt8)) (D M0 : Nat → Prop) (h0 : Hp) (hix : ∀ i ∈ ix, i < last.length ∧ i ≤ 100) (hb : base.length + ix.length ≤ 10000)
  (hq : ∀ (h : Hp) n M (x12 x13 x14 x15 x16 x40 x44 x70 x92 x106 x112 x150 x159 x166 x178 x195 x224 x246 x249 x260 : AVal), Stk h n D M q (base ++ pickL last ix) os → Ch2 h0 n0 M0 h n M → Kont env 104 none Q ks (.exit 0) (x0 :: c :: AVal.junk :: AVal.junk :: .nilp :: .int .i64 0 :: .ptr q 0 :: k7 :: t8 :: .str (lettersOf ix) :: v10 :: .int .i64 (ix.length : Nat) :: x12 :: x13 :: x14 :: x15 :: x16 :: AVal.junk :: AVal.junk :: AVal.junk :: AVal.junk :: AVal.junk :: AVal.junk :: AVal.junk :: AVal.junk :: AVal.junk :: AVal.junk :: AVal.junk :: AVal.junk :: AVal.junk :: AVal.junk :: AVal.junk :: AVal.junk :: AVal.junk :: AVal.junk :: AVal.junk :: AVal.junk :: AVal.junk :: AVal.junk :: AVal.junk :: x40 :: AVal.junk :: AVal.junk :: AVal.junk :: x44 :: AVal.junk :: AVal.junk :: AVal.junk :: AVal.junk :: AVal.junk :: AVal.junk :: AVal.junk :: AVal.junk :: AVal.junk :: AVal.junk :: AVal.junk :: AVal.junk :: AVal.junk :: AVal.junk :: AVal.junk :: AVal.junk :: AVal.junk :: AVal.junk :: AVal.junk :: AVal.junk :: AVal.junk :: AVal.junk :: AVal.junk :: AVal.junk :: AVal.junk :: x70 :: AVal.junk :: AVal.junk :: AVal.junk :: AVal.junk :: AVal.junk :: AVal.junk :: AVal.junk :: AVal.junk :: AVal.junk :: AVal.junk :: AVal.junk :: AVal.junk :: AVal.junk :: AVal.junk :: AVal.junk :: AVal.junk :: AVal.junk :: AVal.junk :: AVal.junk :: AVal.junk :: AVal.junk :: x92 :: AVal.junk :: AVal.junk :: AVal.junk :: AVal.junk :: AVal.junk :: AVal.junk :: AVal.junk :: AVal.junk :: AVal.junk :: AVal.junk :: AVal.junk :: AVal.junk :: AVal.junk :: x106 :: AVal.junk :: AVal.junk :: AVal.junk :: AVal.junk :: AVal.junk :: x112 :: AVal.junk :: AVal.junk :: AVal.junk :: AVal.junk :: AVal.junk :: AVal.junk :: AVal.junk :: AVal.junk :: AVal.junk :: AVal.junk :: AVal.junk :: AVal.junk :: AVal.junk :: AVal.junk :: AVal.junk :: AVal.junk :: AVal.junk :: AVal.junk :: AVal.junk :: AVal.junk :: AVal.junk :: AVal.junk :: AVal.junk :: AVal.junk :: AVal.junk :: AVal.junk :: AVal.junk :: AVal.junk :: AVal.junk :: AVal.junk :: AVal.junk :: AVal.junk :: AVal.junk :: AVal.junk :: AVal.junk :: AVal.junk :: AVal.junk :: x150 :: AVal.junk :: AVal.junk :: AVal.junk :: AVal.junk :: AVal.junk :: AVal.junk :: AVal.junk :: AVal.junk :: x159 :: AVal.junk :: AVal.junk :: AVal.junk :: AVal.junk :: AVal.junk :: AVal.junk :: x166 :: AVal.junk :: AVal.junk :: AVal.junk :: AVal.junk :: AVal.junk :: AVal.junk :: AVal.junk :: AVal.junk :: AVal.junk :: AVal.junk :: AVal.junk :: x178 :: AVal.junk :: AVal.junk :: AVal.junk :: AVal.junk :: AVal.junk :: AVal.junk :: AVal.junk :: AVal.junk :: AVal.junk :: AVal.junk :: AVal.junk :: AVal.junk :: AVal.junk :: AVal.junk :: AVal.junk :: AVal.junk :: x195 :: AVal.junk :: AVal.junk :: AVal.junk :: AVal.junk :: AVal.junk :: AVal.junk :: AVal.junk :: AVal.junk :: AVal.junk :: AVal.junk :: AVal.junk :: AVal.junk :: AVal.junk :: AVal.junk :: AVal.junk :: AVal.junk :: AVal.junk :: AVal.junk :: AVal.junk :: AVal.junk :: AVal.junk :: AVal.junk :: AVal.junk :: AVal.junk :: AVal.junk :: AVal.junk :: AVal.junk :: AVal.junk :: x224 :: AVal.junk :: AVal.junk :: AVal.junk :: AVal.junk :: AVal.junk :: AVal.junk :: AVal.junk :: AVal.junk :: AVal.junk :: AVal.junk :: AVal.junk :: AVal.junk :: AVal.junk :: AVal.junk :: AVal.junk :: AVal.junk :: AVal.junk :: AVal.junk :: AVal.junk :: AVal.junk :: AVal.junk :: x246 :: AVal.junk :: AVal.junk :: x249 :: AVal.junk :: AVal.junk :: AVal.junk :: AVal.junk :: AVal.junk :: AVal.junk :: AVal.junk :: AVal.junk :: AVal.junk :: AVal.junk :: x260 :: AVal.junk :: AVal.junk :: AVal.junk :: AVal.junk :: AVal.junk :: AVal.junk :: AVal.junk :: AVal.junk :: AVal.junk :: AVal.junk :: AVal.junk :: AVal.junk :: AVal.junk :: AVal.junk :: []) h n) :
  ∀ (m i : Nat) (h : Hp) (n : Nat) (M : Nat → Prop) (x12 x13 x14 x15 x16 x40 x44 x70 x92 x106 x112 x150 x159 x166 x178 x195 x224 x246 x249 x260 : AVal), i + m = ix.length → Stk h n D M q (base ++ pickL last (ix.take i)) os → Rds h 1 v10 last.length ys → Els h D ys last → (∀ j, ownId v10 = some j → j < n ∧ ¬ M j) → Ch2 h0 n0 M0 h n M → Free h n →
  Run env 104 none Q (.loop lp104_0) ks (x0 :: c :: AVal.junk :: AVal.junk :: .nilp :: .int .i64 0 :: .ptr q 0 :: k7 :: t8 :: .str (lettersOf ix) :: v10 :: .int .i64 (i : Nat) :: x12 :: x13 :: x14 :: x15 :: x16 :: AVal.junk :: AVal.junk :: AVal.junk :: AVal.junk :: AVal.junk :: AVal.junk :: AVal.junk :: AVal.junk :: AVal.junk :: AVal.junk :: AVal.junk :: AVal.junk :: AVal.junk :: AVal.junk :: AVal.junk :: AVal.junk :: AVal.junk :: AVal.junk :: AVal.junk :: AVal.junk :: AVal.junk :: AVal.junk :: AVal.junk :: x40 :: AVal.junk :: AVal.junk :: AVal.junk :: x44 :: AVal.junk :: AVal.junk :: AVal.junk :: AVal.junk :: AVal.junk :: AVal.junk :: AVal.junk :: AVal.junk :: AVal.junk :: AVal.junk :: AVal.junk :: AVal.junk :: AVal.junk :: AVal.junk :: AVal.junk :: AVal.junk :: AVal.junk :: AVal.junk :: AVal.junk :: AVal.junk :: AVal.junk :: AVal.junk :: AVal.junk :: AVal.junk :: AVal.junk :: x70 :: AVal.junk :: AVal.junk :: AVal.junk :: AVal.junk :: AVal.junk :: AVal.junk :: AVal.junk :: AVal.junk :: AVal.junk :: AVal.junk :: AVal.junk :: AVal.junk :: AVal.junk :: AVal.junk :: AVal.junk :: AVal.junk :: AVal.junk :: AVal.junk :: AVal.junk :: AVal.junk :: AVal.junk :: x92 :: AVal.junk :: AVal.junk :: AVal.junk :: AVal.junk :: AVal.junk :: AVal.junk :: AVal.junk :: AVal.junk :: AVal.junk :: AVal.junk :: AVal.junk :: AVal.junk :: AVal.junk :: x106 :: AVal.junk :: AVal.junk :: AVal.junk :: AVal.junk :: AVal.junk :: x112 :: AVal.junk :: AVal.junk :: AVal.junk :: AVal.junk :: AVal.junk :: AVal.junk :: AVal.junk :: AVal.junk :: AVal.junk :: AVal.junk :: AVal.junk :: AVal.junk :: AVal.junk :: AVal.junk :: AVal.junk :: AVal.junk :: AVal.junk :: AVal.junk :: AVal.junk :: AVal.junk :: AVal.junk :: AVal.junk :: AVal.junk :: AVal.junk :: AVal.junk :: AVal.junk :: AVal.junk :: AVal.junk :: AVal.junk :: AVal.junk :: AVal.junk :: AVal.junk :: AVal.junk :: AVal.junk :: AVal.junk :: AVal.junk :: AVal.junk :: x150 :: AVal.junk :: AVal.junk :: AVal.junk :: AVal.junk :: AVal.junk :: AVal.junk :: AVal.junk :: AVal.junk :: x159 :: AVal.junk :: AVal.junk :: AVal.junk :: AVal.junk :: AVal.junk :: AVal.junk :: x166 :: AVal.junk :: AVal.junk :: AVal.junk :: AVal.junk :: AVal.junk :: AVal.junk :: AVal.junk :: AVal.junk :: AVal.junk :: AVal.junk :: AVal.junk :: x178 :: AVal.junk :: AVal.junk :: AVal.junk :: AVal.junk :: AVal.junk :: AVal.junk :: AVal.junk :: AVal.junk :: AVal.junk :: AVal.junk :: AVal.junk :: AVal.junk :: AVal.junk :: AVal.junk :: AVal.junk :: AVal.junk :: x195 :: AVal.junk :: AVal.junk :: AVal.junk :: AVal.junk :: AVal.junk :: AVal.junk :: AVal.junk :: AVal.junk :: AVal.junk :: AVal.junk :: AVal.junk :: AVal.junk :: AVal.junk :: AVal.junk :: AVal.junk :: AVal.junk :: AVal.junk :: AVal.junk :: AVal.junk :: AVal.junk :: AVal.junk :: AVal.junk :: AVal.junk :: AVal.junk :: AVal.junk :: AVal.junk :: AVal.junk :: AVal.junk :: x224 :: AVal.junk :: AVal.junk :: AVal.junk :: AVal.junk :: AVal.junk :: AVal.junk :: AVal.junk :: AVal.junk :: AVal.junk :: AVal.junk :: AVal.junk :: AVal.junk :: AVal.junk :: AVal.junk :: AVal.junk :: AVal.junk :: AVal.junk :: AVal.junk :: AVal.junk :: AVal.junk :: AVal.junk :: x246 :: AVal.junk :: AVal.junk :: x249 :: AVal.junk :: AVal.junk :: AVal.junk :: AVal.junk :: AVal.junk :: AVal.junk :: AVal.junk :: AVal.junk :: AVal.junk :: AVal.junk :: x260 :: AVal.junk :: AVal.junk :: AVal.junk :: AVal.junk :: AVal.junk :: AVal.junk :: AVal.junk :: AVal.junk :: AVal.junk :: AVal.junk :: AVal.junk :: AVal.junk :: AVal.junk :: AVal.junk :: []) h n := by
 have hll : (lettersOf ix).length = ix.length := by unfold lettersOf; rw [List.length_map]
 intro m
 induction m with
 | zero =>
  intro i h n M x12 x13 x14 x15 x16 x40 x44 x70 x92 x106 x112 x150 x159 x166 x178 x195 x224 x246 x249 x260 hi hs h7 hel hd2 ch hf
  have : i = ix.length := by omega
  subst this
  have hc : ¬ ((ix.length : Nat) : Int) < (((lettersOf ix).length : Nat) : Int) := by omega
  rw [run_loop]
  simp only [lp104_0, loopsOf, Try.f104, Option.getD_some, fgr, builtin, blr, bor, List.getD_cons_zero, hc, gE]
  rw [List.take_length] at hs
  exact hq h n M _ _ _ _ _ _ _ _ _ _ _ _ _ _ _ _ _ _ _ _ hs ch
 | succ m ih =>
  intro i h n M x12 x13 x14 x15 x16 x40 x44 x70 x92 x106 x112 x150 x159 x166 x178 x195 x224 x246 x249 x260 hi hs h7 hel hd2 ch hf
  have hil : i < ix.length := by omega
  have hc : ((i : Nat) : Int) < (((lettersOf ix).length : Nat) : Int) := by omega
  have hw : IntKind.i64.wrap (((i : Nat) : Int) + 1) = ((i + 1 : Nat) : Int) := by rw [w64 (by omega) (by omega)]; omega
  have hx := hix _ (List.getElem_mem hil)
  have hget : (lettersOf ix)[i]? = some (UInt8.ofNat (97 + ix[i])) := by unfold lettersOf; rw [List.getElem?_map, List.getElem?_eq_getElem hil]; rfl
  have hnat : (UInt8.ofNat (97 + ix[i])).toNat = 97 + ix[i] := by rw [UInt8.toNat_ofNat']; exact Nat.mod_eq_of_lt (by omega)
  obtain ⟨x, hx1, hx2⟩ := hel.get hx.1
  have hs0 := hs
  obtain ⟨vl, vo, xl, xo, sv, mp, ml, mo, mn⟩ := hs
  have hpn := sv.pn
  obtain ⟨er, hrow⟩ := sv.row
  rw [run_loop]
  simp only [lp104_0, loopsOf, Try.f104, Option.getD_some, fgr, builtin, blr, bor, List.getD_cons_zero, hc, gE]
  refine run_draw ⟨rfl, ?_⟩
  simp only [tyr, moved, Nat.reduceAdd, gE]
  rw [fev_rd (Row.one (off := 0) sv.row rfl ti53 rfl)]
  have hb1 : (((byteAt (lettersOf ix) (((i : Nat) : Int).toNat)).toNat : Nat) : Int) = ((97 + ix[i] : Nat) : Int) := by
   rw [Int.toNat_natCast]
   unfold byteAt
   rw [List.getD_eq_getElem?_getD, hget, Option.getD_some, hnat]
  have hsub : IntKind.u8.wrap (((97 + ix[i] : Nat) : Int) - 97) = ((ix[i] : Nat) : Int) := by rw [wu8 (by omega) (by omega)]; omega
  have hcv : IntKind.i64.wrap ((ix[i] : Nat) : Int) = ((ix[i] : Nat) : Int) := w64 (by omega) (by omega)
  simp only [tyr, bor, wrapI, aggK, idx, index, Nat.reduceAdd, gE]
  refine ⟨decide_eq_true (by omega), ?_⟩
  simp only [tyr, lenOf, wrapI, Nat.reduceAdd, convert, convStr, isU8, hb1, hsub, hcv, gE]
  rw [fev_rd (h7.idx (j := ix[i]) u53 s22 rfl hx.1)]
  simp only [Nat.reduceAdd, Nat.mul_one, gE]
  rw [fev_rd (h7.load (k := ix[i]) ti22 rfl hx1)]
  simp only [Nat.reduceAdd, gE]
  rw [bs22 x hx2.1.kind]
  refine fev_row' ti22 hf fun h4 g4 o4 f4 => ?_
  have o4' : Old h h4 n := fun j hj => o4 j (by omega)
  have sv4 : StkV h4 (n + 1) D q vl vo xl xo _ os := sv.keep (by omega) (o4' q sv.pn) (fun j hj => o4' j (mn j (ml j hj)).1) (fun j hj => o4' j (mn j (mo j hj)).1) (fun j hj => o4' j (sv.dn j hj))
  have hlen : (base ++ pickL last (ix.take i)).length ≤ 10000 := by
   rw [List.length_append]; unfold pickL; rw [List.length_map, List.length_take]; omega
  generalize hcur : base ++ pickL last (ix.take i) = cur at *
  simp only [builtin, Nat.reduceAdd, gE]
  refine fev_any f4 (wp_lst_append (i := ⟨.slice 5, 1, 24, .nils⟩) (e := 22) (Q1 := fun v' h' n' => n + 1 ≤ n' ∧ Free h' n' ∧ Lst h' 22 1 v' (cur.length + 1) (xl ++ [x]) ∧ (ownId v' = ownId vl ∨ ownId v' = some (n + 1) ∧ n + 1 < n') ∧ (∀ j, j < n + 1 → ownId vl ≠ some j → h' j = h4 j)) sv4.l (row_rds g4 rfl) u53 u53 ti22 (by simp [hx2.1.kind.2.1]) (by decide) (by show 2 * (cur.length + 1) * 24 ≤ _; omega) (by omega) f4 fun v' h' n' a b c d e => ⟨a, b, c, d, e⟩) fun v5 h5 n5 r5 w5 hn5 f5 ⟨_, _, l5, i5, o5⟩ => ?_
  have hp5 : h5 q = some (.row (.l [vl, vo]) er) := by rw [o5 q (by omega) (fun w => (sv.lp q w).1 rfl), o4' q hpn]; exact hrow
  have hk := l5.rds.kind
  simp only [tyr, moved, Nat.reduceAdd, gE]
  refine fev_wr (Row.write hp5 ti53 (by rw [hk.1]; rfl) (by show 0 + 1 ≤ 2; omega) (by rw [hk.1]; simp [hk.2.1])) ?_
  rw [hk.1, show splice [vl, vo] 0 [v5] = [v5, vo] from rfl]
  obtain ⟨M', s6, c6⟩ := put_ref (e := er) (E := D) sv4 mp ml mo (fun j hj => ⟨by have := (mn j hj).1; omega, (mn j hj).2⟩) (hx2.mono (fun _ q => q) fun j hj => o4' j (sv.dn j hj)) (fun j w => ⟨by have := sv.dn j w; omega, fun r => (mn j r).2 w⟩) l5 i5 o5 f5 hn5
  have ch2 : Ch2 h n M _ n5 M' := (Ch2.of f4 (by omega) o4').trans c6
  simp only [fgr, bor, wrapI, Nat.reduceAdd, gE]
  refine ⟨(by (try simp (disch := first | assumption | omega) only [fine, gF]); repeat' (first | rfl | exact (Bool.or_eq_true _ _).mpr (.inr rfl) | refine (Bool.and_eq_true _ _).mpr ⟨?_, ?_⟩)), ?_⟩
  simp only [hw]
  have hget2 : last.getD ix[i] [] = last[ix[i]] := by rw [List.getD_eq_getElem?_getD, List.getElem?_eq_getElem hx.1]; rfl
  have hk : ∀ j, (j < n ∧ ¬ M j) → _ = h j := fun j hj => ch2.old j hj.1 hj.2
  have hk2 : ∀ j, (j < n ∧ ¬ M j) → j < n5 ∧ ¬ M' j := fun j hj => ⟨by have := ch2.nx; omega, fun q => (ch2.m' j q).elim hj.2 (fun w => by omega)⟩
  refine ih (i + 1) _ n5 M' _ _ _ _ _ _ _ _ _ _ _ _ _ _ _ _ _ _ _ _ (by omega) ?_ (h7.keep fun j hj => hk j (hd2 j hj)) (hel.mono (fun _ q => q) (fun j hj => hk j (hs0.d j hj))) (fun j hj => hk2 j (hd2 j hj)) (ch.trans ch2) c6.fr
  rw [pick_succ hil, hget2, ← List.append_assoc, hcur]
  exact s6.same or_idem
theorem outI_len2 {ls : List (List UInt8)} {i : Nat} (h : i < ls.length) : (outI ls i).length = i + (ls.length - (i + 1)) := by
 unfold outI
 rw [List.length_append, List.length_take, List.length_drop]; omega
theorem frm_pos {c : Int} {x : Nat × List Nat} (h : frm c = some x) : 1 ≤ x.1 := by
 by_cases e109 : c = 109
 ·subst e109; rw [fr109] at h; injection h with h; subst h; decide
 by_cases e110 : c = 110
 ·subst e110; rw [fr110] at h; injection h with h; subst h; decide
 by_cases e111 : c = 111
 ·subst e111; rw [fr111] at h; injection h with h; subst h; decide
 by_cases e112 : c = 112
 ·subst e112; rw [fr112] at h; injection h with h; subst h; decide
 by_cases e113 : c = 113
 ·subst e113; rw [fr113] at h; injection h with h; subst h; decide
 by_cases e114 : c = 114
 ·subst e114; rw [fr114] at h; injection h with h; subst h; decide
 by_cases e117 : c = 117
 ·subst e117; rw [fr117] at h; injection h with h; subst h; decide
 by_cases e118 : c = 118
 ·subst e118; rw [fr118] at h; injection h with h; subst h; decide
 by_cases e119 : c = 119
 ·subst e119; rw [fr119] at h; injection h with h; subst h; decide
 by_cases e120 : c = 120
 ·subst e120; rw [fr120] at h; injection h with h; subst h; decide
 by_cases e123 : c = 123
 ·subst e123; rw [fr123] at h; injection h with h; subst h; decide
 by_cases e124 : c = 124
 ·subst e124; rw [fr124] at h; injection h with h; subst h; decide
 by_cases e125 : c = 125
 ·subst e125; rw [fr125] at h; injection h with h; subst h; decide
 rw [frN e109 e110 e111 e112 e113 e114 e117 e118 e119 e120 e123 e124 e125] at h; cases h
set_option maxHeartbeats 8000000 in
theorem f104 (p : Nat) (c : Int) (ls os : List (List UInt8)) (D M : Nat → Prop) (h : Hp) (n : Nat) (hs : Stk h n D M p ls os) (hn : ls.length + os.length ≤ 100) (hel : ∀ l ∈ ls, l.length ≤ 900000) (h0 : 0 ≤ leastV c) (hf : Free h n) :
  Wp (callI env (evalW env) 104 [.ptr p 0, .int .u8 c]) h n (DonePost c ls os D h n) := by
 have hs0 := hs
 obtain ⟨vl, vo, xl, xo, sv, mp, ml, mo, mn⟩ := hs
 refine wp_callI ff104 fi104 ?_
 simp only [fu104, Try.f104, Option.getD_some, List.replicate, fgr, Nat.reduceAdd, Nat.reduceSub, gE]
 refine run_draw ⟨rfl, ?_⟩
 simp only [tyr, moved, Nat.reduceAdd, gE]
 rw [fev_rd (Row.one (off := 0) sv.row rfl ti53 rfl)]
 simp only [hkr, Nat.reduceAdd, gE]
 have hS : ∀ j, ownId vl = some j → decide (ownId vl = some j) = true := fun j hj => decide_eq_true hj
 refine fev_in (fun j => decide (ownId vl = some j)) hf (f109 vl ls.length xl _ n (sv.l.rds.keep fun j hj => only_in (hS j hj)) sv.le.cells (by omega) hf.only) fun v3 h3 n3 r3 w3 hr hn3 f3 ⟨l3, i3, o3⟩ a3 b3 cr3 cw3 => ?_
 have l3 : Lst h3 22 1 v3 ls.length xl := l3.keep fun j hj => a3 j (.inr (i3 j hj).1)
 have o3 : Old h h3 n := fun j hj => by
  by_cases q : ownId vl = some j
  ·rw [a3 j (.inl (hS j q)), o3 j hj, only_in (hS j q)]
  ·exact b3 j hj (decide_eq_false q)
 have hpn := sv.pn
 have xp : p ∉ w3 := not_in cw3 (decide_eq_false fun q => (sv.lp p q).1 rfl)
 obtain ⟨er, hrow⟩ := sv.row
 have hrow3 : h3 p = some (.row (.l [vl, vo]) er) := (o3 p sv.pn).trans hrow
 simp only [tyr, moved, Nat.reduceAdd, gE]
 rw [fev_rd (Row.one (off := 1) ⟨er, hrow3⟩ rfl ti53 rfl)]
 simp only [hkr, Nat.reduceAdd, gE]
 have lo3 : Lst h3 22 1 vo os.length xo := sv.o.keep fun j hj => o3 j (mn j (mo j hj)).1
 refine fev_any f3 (f109 vo os.length xo h3 n3 lo3.rds sv.oe.cells (by omega) f3) fun v4 h4 n4 r4 w4 hn4 f4 ⟨l4, i4, o4⟩ => ?_
 simp only [Nat.reduceAdd, gE]
 rw [b78 v3 v4 l3.rds.kind l4.rds.kind]
 simp only [Nat.reduceAdd, gE]
 refine fev_box ti78 rfl f4 fun h5 r5 w5 g5 o5 f5 => ?_
 have g5 : h5 n4 = some (.row (.l [v3, v4]) 78) := g5
 have o5n : Old h h5 n := fun j hj => by rw [o5 j (by omega), o4 j (by omega), o3 j hj]
 have hd5 : ∀ j, D j → h5 j = h j := fun j hj => o5n j (sv.dn j hj)
 have sc : StkV h5 (n4 + 1) D n4 v3 v4 xl xo ls os := by
  refine ⟨⟨_, g5⟩, l3.keep fun j hj => ?_, sv.le.mono (fun _ q => q) hd5, l4.keep fun j hj => o5 j (by have := (i4 j hj).2; omega), sv.oe.mono (fun _ q => q) hd5, by omega, fun j hj => by have := sv.dn j hj; omega, fun q => by have := sv.dn _ q; omega, fun j hj => ?_, fun j hj => ?_⟩
  ·have := (i3 j hj).2; rw [o5 j (by omega), o4 j (by omega)]
  ·exact ⟨fun q => by have := (i3 j hj).2; omega, fun q => by have := (i3 j hj).1; have := sv.dn j q; omega⟩
  ·exact ⟨fun q => by have := (i4 j hj).2; omega, fun q => by have := (i4 j hj).1; have := sv.dn j q; omega, fun q => by have := (i3 j q).2; have := (i4 j hj).1; omega⟩
 obtain ⟨M1, mp1, ml1, mo1, mn1, hM0⟩ : ∃ M1 : Nat → Prop, M1 n4 ∧ (∀ j, ownId v3 = some j → M1 j) ∧ (∀ j, ownId v4 = some j → M1 j) ∧ (∀ j, M1 j → j < n4 + 1 ∧ ¬ D j) ∧ ∀ j, M1 j → n ≤ j := by
  refine ⟨fun j => j = n4 ∨ ownId v3 = some j ∨ ownId v4 = some j, .inl rfl, fun j q => .inr (.inl q), fun j q => .inr (.inr q), fun j q => ?_, fun j q => ?_⟩
  ·rcases q with q | q | q
   ·rw [q]; exact ⟨by omega, fun w => by have := sv.dn _ w; omega⟩
   ·exact ⟨by have := (i3 j q).2; omega, (sc.lp j q).2⟩
   ·exact ⟨by have := (i4 j q).2; omega, (sc.op j q).2.1⟩
  ·rcases q with q | q | q
   ·omega
   ·exact (i3 j q).1
   ·have := (i4 j q).1; omega
 simp only [tyr, fgr, moved, Nat.reduceAdd, gE]
 refine ⟨(by (try simp (disch := first | assumption | omega) only [fine, gF]); repeat' (first | rfl | exact (Bool.or_eq_true _ _).mpr (.inr rfl) | refine (Bool.and_eq_true _ _).mpr ⟨?_, ?_⟩)), ?_⟩
 rw [opv_rd (Row.one (off := 0) sc.row rfl ti53 rfl)]
 cases hfm : frm c with
 | some x =>
  obtain ⟨k1, k2, k3⟩ := frm_ok hfm
  have hpos := frm_pos hfm
  have hlv : leastV c = (x.1 : Nat) := by unfold leastV; rw [hfm]
  have hE : doE c ls os = 0 := by unfold doE; rw [hfm]
  have hL : doL c ls os = ls.take (ls.length - x.1) ++ pickL (ls.drop (ls.length - x.1)) x.2 := by unfold doL; rw [hfm]
  have hO : doO c ls os = os := by unfold doO; rw [hfm]
  have hfA : (fA c).length = x.1 := by unfold fA; rw [hfm]; simp
  have hne : ¬ fA c = [] := fun q => by rw [q] at hfA; simp at hfA; omega
  have hfB : fB c = lettersOf x.2 := by unfold fB idxs lettersOf; rw [hfm]
  simp only [fgr, hkr, builtin, blr, bor, strOp, sc.l.rds.bLen u53, c79, hfB, hne, hfA, gE]
  by_cases d2 : ((ls.length : Nat) : Int) < ((x.1 : Nat) : Int)
  ·have he : doneE c ls os = 120 := by unfold doneE; rw [if_pos (by rw [hlv]; exact d2)]
   simp only [fgr, d2, gE]
   exact ⟨o5n, .inl ⟨by rw [he]; decide, by rw [he]⟩⟩
  have he : doneE c ls os = 0 := by unfold doneE; rw [if_neg (by rw [hlv]; exact d2), hE]
  have w1 : IntKind.i64.wrap (((ls.length : Nat) : Int) - ((x.1 : Nat) : Int)) = ((ls.length - x.1 : Nat) : Int) := by rw [w64 (by omega) (by omega)]; omega
  simp only [tyr, moved, d2, gE]
  rw [opv_rd (Row.one (off := 0) sc.row rfl ti53 rfl)]
  simp only [opt, builtin, blr, bor, wrapI, hfA, w1, gE]
  rw [opv_rd (sc.l.rds.tail_rd u53 s22 rfl (by omega))]
  simp only [tyr, fgr, moved, gE]
  rw [opv_rd (Row.one (off := 0) sc.row rfl ti53 rfl)]
  simp only [opt, builtin, blr, bor, wrapI, hfA, w1, gE]
  rw [opv_rd (sc.l.rds.head_rd sc.l.roomy u53 s22 rfl (by omega))]
  simp only [hkr, gE]
  have hpre := sc.l.pre (hi := ls.length - x.1) (by omega)
  rw [Nat.mul_one] at hpre
  have hcx : (xl.take (ls.length - x.1)).all oneCell = true := (sc.le.take _).cells
  refine opv_callf f5 (f109 _ (ls.length - x.1) _ h5 (n4 + 1) hpre.rds hcx (by omega) f5) fun v6 h6 n6 hn6 f6 ⟨l6, i6, o6⟩ => ?_
  have hp6 : h6 n4 = some (.row (.l [v3, v4]) 78) := by rw [o6 n4 (by omega)]; exact g5
  have hk6 := l6.rds.kind
  have htl : (ls.take (ls.length - x.1)).length = ls.length - x.1 := by rw [List.length_take, Nat.min_eq_left (by omega)]
  simp only [tyr, moved, gE]
  rw [opv_wr (Row.write hp6 ti53 (by rw [hk6.1]; rfl) (by show 0 + 1 ≤ 2; omega) (by rw [hk6.1]; simp [hk6.2.1]))]
  rw [hk6.1, show splice [v3, v4] 0 [v6] = [v6, v4] from rfl]
  obtain ⟨M2, s7, c7, m7⟩ := set0 (e := 78) (h5 := h6) (n5 := n6) (D' := D) (s' := v6) (xs := xl.take (ls.length - x.1)) (ms := ls.take (ls.length - x.1)) sc mp1 ml1 mo1 mn1 (fun _ q => q) (fun j q => ⟨by have := sc.dn j q; omega, fun w => (mn1 j w).2 q, fun w => by have := i6 j w; have := sc.dn j q; omega⟩) (by rw [htl]; exact l6) ((sc.le.take _).mono (fun _ q => q) (fun j q => o6 j (sc.dn j q))) (fun j q => .inr (i6 j q)) (fun j q _ => o6 j q) f6 hn6
  have hl3 : ∀ j, ownId v3 = some j → upd h6 n4 (some (.row (.l [v6, v4]) 78)) j = h5 j ∧ j < n6 ∧ ¬ M2 j := fun j q => by
   have hj : j < n4 + 1 := (mn1 j (ml1 j q)).1
   refine ⟨by rw [upd_ne _ _ (sc.lp j q).1]; exact o6 j hj, by omega, fun w => ?_⟩
   rcases m7 j w with r | r | r
   ·exact (sc.lp j q).1 r
   ·have := i6 j r; omega
   ·exact (sc.op j r).2.2 q
  have hsub := sc.l.rds.sub (lo := ls.length - x.1) (hi := ls.length) (by omega) (Nat.le_refl _)
  have hdl : (ls.drop (ls.length - x.1)).length = x.1 := by rw [List.length_drop]; omega
  have e1 : ls.length - (ls.length - x.1) = x.1 := by omega
  rw [e1, Nat.mul_one, Nat.mul_one, List.take_of_length_le (by rw [List.length_drop, sc.le.len]; omega)] at hsub
  have hsi : ownId (subOf (ls.length - x.1) ls.length v3) = ownId v3 := sub_id _ _ _
  simp only [fgr, gE]
  refine loop104 _ _ n4 n6 x.2 _ _ _ _ _ (xl.drop (ls.length - x.1)) (ls.take (ls.length - x.1)) (ls.drop (ls.length - x.1)) os D M2 _ (fun i hi => ⟨by rw [hdl]; exact k1 i hi, by have := k1 i hi; omega⟩) (by rw [htl]; omega) ?_ x.2.length 0 _ n6 M2 _ _ _ _ _ _ _ _ _ _ _ _ _ _ _ _ _ _ _ _ (by omega) (by rw [List.take_zero]; unfold pickL; rw [List.map_nil, List.append_nil]; exact s7) ?_ ?_ ?_ ⟨Nat.le_refl _, c7.fr, fun _ q => .inl q, fun _ _ _ => rfl⟩ c7.fr
  ·intro h8 n8 M8 x12 x13 x14 x15 x16 x40 x44 x70 x92 x106 x112 x150 x159 x166 x178 x195 x224 x246 x249 x260 s8 c8
   have ct := c7.trans c8
   simp only [fgr, gE]
   refine ⟨fun j hj => ?_, .inr ⟨he, n4, D, M8, rfl, by rw [hL, hO]; exact s8, fun _ q => q, fun _ q => .inl q, fun j q => ?_⟩⟩
   ·rw [ct.old j (by omega) (fun w => by have := hM0 j w; omega)]; exact o5n j hj
   ·rcases ct.m' j q with w | w
    ·exact hM0 j w
    ·omega
  ·rw [hdl]; exact hsub.keep fun j q => by rw [hsi] at q; exact (hl3 j q).1
  ·exact (sc.le.drop _).mono (fun _ q => q) (fun j q => by rw [upd_ne _ _ (fun w => sc.pd (by rw [← w]; exact q))]; exact o6 j (sc.dn j q))
  ·intro j q; rw [hsi] at q; exact (hl3 j q).2
 | none =>
  have hfA : fA c = [] := by unfold fA; rw [hfm]
  have hfB : fB c = [] := by unfold fB idxs; rw [hfm]; rfl
  have hlv : leastV c = if c = 116 ∨ c = 108 then 0 else if c = 115 ∨ c = 130 ∨ c = 107 ∨ c = 121 ∨ c = 122 then 1 else -1 := by unfold leastV; rw [hfm]
  have hE0 : doE c ls os = if c = 107 then 0 else if c = 108 then (if os = [] then 120 else 0) else if c = 115 then 0 else if c = 116 then 0 else if c = 130 then 0 else farE ls := by unfold doE; rw [hfm]
  have hL0 : doL c ls os = if c = 107 then popL ls else if c = 108 then ls ++ [top os] else if c = 115 then (if tv (top ls) = true then ls ++ [top ls] else ls) else if c = 116 then ls ++ [encL (ls.length : Nat)] else if c = 130 then ls ++ [encL ((top ls).length : Nat)] else farL (decide (c = 122)) ls := by unfold doL; rw [hfm]
  have hO0 : doO c ls os = if c = 107 then os ++ [top ls] else if c = 108 then popL os else os := by unfold doO; rw [hfm]
  have fin : ∀ (H : Hp) (N : Nat) (D' M' : Nat → Prop), Stk H N D' M' n4 (doL c ls os) (doO c ls os) → Ch2 h5 (n4 + 1) M1 H N M' → (∀ j, D j → D' j) → (∀ j, D' j → D j ∨ n ≤ j) → doneE c ls os = 0 → DonePost c ls os D h n (.tup [.ptr n4 0, .int .i64 0]) H N := fun H N D' M' s ch d1 d2 he =>
   ⟨fun j hj => by rw [ch.old j (by omega) (fun w => by have := hM0 j w; omega)]; exact o5n j hj, .inr ⟨he, n4, D', M', rfl, s, d1, d2, fun j q => (ch.m' j q).elim (hM0 j) (fun w => by omega)⟩⟩
  simp only [fgr, hkr, builtin, bor, strOp, sc.l.rds.bLen u53, c79, hfA, hfB, gE]
  by_cases e116 : c = 116
  ·subst e116
   have he : doneE 116 ls os = 0 := by unfold doneE; rw [hlv, if_neg (by simp)]; exact hE0
   simp only [core1, decide_true]
   refine run_draw ⟨rfl, ?_⟩
   simp only [tyr, moved, Nat.reduceAdd, gE]
   rw [fev_rd (Row.one (off := 0) sc.row rfl ti53 rfl)]
   simp only [hkr, Nat.reduceAdd, gE]
   refine fev_free f5 (f56n ((ls.length : Nat) : Int) (by omega) (by omega) _ _) (f56n ((ls.length : Nat) : Int) (by omega) (by omega) h5 (n4 + 1)) fun v6 h6 n6 hn6 f6 ⟨b6, i6, o6⟩ => ?_
   have sc6 : StkV h6 n6 D n4 v3 v4 xl xo ls os := sc.keep hn6 (o6 n4 (by omega)) (fun j hj => o6 j (mn1 j (ml1 j hj)).1) (fun j hj => o6 j (mn1 j (mo1 j hj)).1) (fun j hj => o6 j (sc.dn j hj))
   have enc : fmB ((ls.length : Nat) : Int) = encL ((ls.length : Nat) : Int) := by unfold encL; rw [show wideB ((ls.length : Nat) : Int) = false by simp [wideB]; omega]
   simp only [Nat.reduceAdd, gE]
   rw [bs22 v6 b6.kind]
   refine fev_row' ti22 f6 fun HA gA ooA FA => ?_
   have okA : Old h6 HA n6 := fun j hj => ooA j (by omega)
   have scA : StkV HA (n6 + 1) D n4 v3 v4 xl xo ls os := sc6.keep (by omega) (okA n4 sc6.pn) (fun j hj => okA j (by have := (mn1 j (ml1 j hj)).1; omega)) (fun j hj => okA j (by have := (mn1 j (mo1 j hj)).1; omega)) (fun j hj => okA j (sc6.dn j hj))
   simp only [builtin, Nat.reduceAdd, gE]
   refine fev_any FA (wp_lst_append (i := ⟨.slice 5, 1, 24, .nils⟩) (e := 22) (Q1 := fun v' h' n' => n6 + 1 ≤ n' ∧ Free h' n' ∧ Lst h' 22 1 v' (ls.length + 1) (xl ++ [v6]) ∧ (ownId v' = ownId v3 ∨ ownId v' = some (n6 + 1) ∧ n6 + 1 < n') ∧ (∀ j, j < n6 + 1 → ownId v3 ≠ some j → h' j = HA j)) scA.l (row_rds gA rfl) u53 u53 ti22 (by simp [(b6.kind).2.1]) (by decide) (by show 2 * (ls.length + 1) * 24 ≤ _; omega) (by omega) FA fun v' h' n' a b c d e => ⟨a, b, c, d, e⟩) fun wA KA kA rA xA hkA GA ⟨_, _, lA, iA, qA⟩ => ?_
   have hrowA : HA n4 = some (.row (.l [v3, v4]) 78) := by rw [okA n4 (by omega), o6 n4 (by omega)]; exact g5
   have hpA : KA n4 = some (.row (.l [v3, v4]) 78) := by rw [qA n4 (by have := scA.pn; omega) (fun w => (sc.lp n4 w).1 rfl)]; exact hrowA
   have kkA := lA.rds.kind
   simp only [tyr, moved, Nat.reduceAdd, gE]
   refine fev_wr (Row.write hpA ti53 (by rw [kkA.1]; rfl) (by show 0 + 1 ≤ 2; omega) (by rw [kkA.1]; simp [kkA.2.1])) ?_
   rw [kkA.1, show splice [v3, v4] 0 [wA] = [wA, v4] from rfl]
   obtain ⟨MA, sA, cA⟩ := put_ref (e := 78) (E := fun j => ownId v6 = some j) scA mp1 ml1 mo1 (fun j hj => ⟨by have := (mn1 j hj).1; omega, (mn1 j hj).2⟩) ⟨b6.keep fun j hj => okA j (i6 j hj).2, fun j q => q⟩ (fun j q => ⟨by have := (i6 j q).2; omega, fun w => by have := (i6 j q).1; have := (mn1 j w).1; omega⟩) lA iA qA GA hkA
   simp only [fgr, Nat.reduceAdd, gE]
   refine ⟨(by (try simp (disch := first | assumption | omega) only [fine, gF]); repeat' (first | rfl | exact (Bool.or_eq_true _ _).mpr (.inr rfl) | refine (Bool.and_eq_true _ _).mpr ⟨?_, ?_⟩)), ?_⟩
   refine fin _ _ (fun j => D j ∨ ownId v6 = some j) MA (by rw [show doL 116 ls os = ls ++ [encL ((ls.length : Nat) : Int)] from rfl, show doO 116 ls os = os from rfl, ← enc]; exact sA) (((Ch2.of f6 hn6 o6).trans (Ch2.of FA (by omega) okA)).trans cA) (fun _ q => .inl q) (fun j q => q.elim .inl (fun q => .inr (by have := (i6 j q).1; omega))) he
  by_cases e108 : c = 108
  ·subst e108
   simp only [tyr, fgr, bor, moved, Int.reduceEq, gE]
   rw [opv_rd (Row.one (off := 1) sc.row rfl ti53 rfl)]
   by_cases hoe : os = []
   ·have he : doneE 108 ls os = 120 := by unfold doneE; rw [hlv, if_neg (by simp), hE0, if_neg (by decide), if_pos rfl, if_pos hoe]
    have hc : ((os.length : Nat) : Int) = 0 := by rw [hoe]; rfl
    simp only [fgr, builtin, bor, sc.o.rds.bLen u53, hc, gE]
    exact ⟨o5n, .inl ⟨by rw [he]; decide, by rw [he]⟩⟩
   have hop := List.length_pos_iff.2 hoe
   have he : doneE 108 ls os = 0 := by unfold doneE; rw [hlv, if_neg (by simp), hE0, if_neg (by decide), if_pos rfl, if_neg hoe]
   have hc : ¬ ((os.length : Nat) : Int) = 0 := by omega
   have w1 : IntKind.i64.wrap (((os.length : Nat) : Int) - 1) = ((os.length - 1 : Nat) : Int) := by rw [w64 (by omega) (by omega)]; omega
   obtain ⟨x, hx1, hx2⟩ := elt sc.oe hoe
   rw [Nat.sub_zero] at hx1
   simp only [fgr, builtin, bor, sc.o.rds.bLen u53, hc, gE]
   refine run_draw ⟨rfl, ?_⟩
   simp only [tyr, moved, Nat.reduceAdd, gE]
   rw [fev_rd (Row.one (off := 0) sc.row rfl ti53 rfl)]
   simp only [tyr, moved, Nat.reduceAdd, gE]
   rw [fev_rd (Row.one (off := 1) sc.row rfl ti53 rfl)]
   simp only [tyr, moved, Nat.reduceAdd, gE]
   rw [fev_rd (Row.one (off := 1) sc.row rfl ti53 rfl)]
   simp only [builtin, bor, wrapI, Nat.reduceAdd, sc.o.rds.bLen u53, w1, gE]
   rw [fev_rd (sc.o.rds.idx (j := os.length - 1) u53 s22 rfl (by omega))]
   simp only [Nat.reduceAdd, Nat.mul_one, gE]
   rw [fev_rd (sc.o.rds.load (k := os.length - 1) ti22 rfl hx1)]
   simp only [Nat.reduceAdd, gE]
   rw [bs22 x hx2.1.kind]
   refine fev_row' ti22 f5 fun HA gA ooA FA => ?_
   have okA : Old h5 HA (n4 + 1) := fun j hj => ooA j (by omega)
   have scA : StkV HA ((n4 + 1) + 1) D n4 v3 v4 xl xo ls os := sc.keep (by omega) (okA n4 sc.pn) (fun j hj => okA j (by have := (mn1 j (ml1 j hj)).1; omega)) (fun j hj => okA j (by have := (mn1 j (mo1 j hj)).1; omega)) (fun j hj => okA j (sc.dn j hj))
   simp only [builtin, Nat.reduceAdd, gE]
   refine fev_any FA (wp_lst_append (i := ⟨.slice 5, 1, 24, .nils⟩) (e := 22) (Q1 := fun v' h' n' => (n4 + 1) + 1 ≤ n' ∧ Free h' n' ∧ Lst h' 22 1 v' (ls.length + 1) (xl ++ [x]) ∧ (ownId v' = ownId v3 ∨ ownId v' = some ((n4 + 1) + 1) ∧ (n4 + 1) + 1 < n') ∧ (∀ j, j < (n4 + 1) + 1 → ownId v3 ≠ some j → h' j = HA j)) scA.l (row_rds gA rfl) u53 u53 ti22 (by simp [(hx2.1.kind).2.1]) (by decide) (by show 2 * (ls.length + 1) * 24 ≤ _; omega) (by omega) FA fun v' h' n' a b c d e => ⟨a, b, c, d, e⟩) fun wA KA kA rA xA hkA GA ⟨_, _, lA, iA, qA⟩ => ?_
   have hrowA : HA n4 = some (.row (.l [v3, v4]) 78) := by rw [okA n4 (by omega)]; exact g5
   have hpA : KA n4 = some (.row (.l [v3, v4]) 78) := by rw [qA n4 (by have := scA.pn; omega) (fun w => (sc.lp n4 w).1 rfl)]; exact hrowA
   have kkA := lA.rds.kind
   simp only [tyr, moved, Nat.reduceAdd, gE]
   refine fev_wr (Row.write hpA ti53 (by rw [kkA.1]; rfl) (by show 0 + 1 ≤ 2; omega) (by rw [kkA.1]; simp [kkA.2.1])) ?_
   rw [kkA.1, show splice [v3, v4] 0 [wA] = [wA, v4] from rfl]
   obtain ⟨MA, sA, cA⟩ := put_ref (e := 78) (E := D) scA mp1 ml1 mo1 (fun j hj => ⟨by have := (mn1 j hj).1; omega, (mn1 j hj).2⟩) (hx2.mono (fun _ q => q) fun j hj => okA j (sc.dn j hj)) (fun j q => ⟨by have := sc.dn j q; omega, fun w => (mn1 j w).2 q⟩) lA iA qA GA hkA
   simp only [fe_nil, core1, fgr, putT, forgetL, Nat.reduceAdd]
   refine ⟨(by (try simp (disch := first | assumption | omega) only [fine, gF]); repeat' (first | rfl | exact (Bool.or_eq_true _ _).mpr (.inr rfl) | refine (Bool.and_eq_true _ _).mpr ⟨?_, ?_⟩)), ?_⟩
   have sB := sA.same or_idem
   have cB := (Ch2.of FA (by omega) okA).trans cA
   clear sA cA
   generalize upd KA n4 _ = HB at *
   obtain ⟨vl2, vo2, xl2, xo2, sv2, mp2, ml2, mo2, mn2⟩ := sB
   obtain ⟨e2, hr2⟩ := sv2.row
   have FB := cB.fr
   have pnB := sv2.pn
   refine run_draw ⟨rfl, ?_⟩
   simp only [tyr, moved, Nat.reduceAdd, gE]
   rw [fev_rd (Row.one (off := 1) sv2.row rfl ti53 rfl)]
   simp only [tyr, moved, Nat.reduceAdd, gE]
   rw [fev_rd (Row.one (off := 1) sv2.row rfl ti53 rfl)]
   simp only [opt, builtin, bor, wrapI, Nat.reduceAdd, sv2.o.rds.bLen u53, w1, gE]
   rw [fev_rd (sv2.o.rds.head_rd sv2.o.roomy u53 s22 rfl (by omega))]
   simp only [tyr, moved, Nat.reduceAdd, gE]
   have hpre := sv2.o.pre (hi := os.length - 1) (by omega)
   rw [Nat.mul_one] at hpre
   have hkp := hpre.rds.kind
   have hsi : ownId (subOf 0 (os.length - 1) vo2) = ownId vo2 := sub_id _ _ _
   refine fev_wr (Row.write hr2 ti53 (by rw [hkp.1]; rfl) (by show 1 + 1 ≤ 2; omega) (by rw [hkp.1]; simp [hkp.2.1])) ?_
   rw [hkp.1, show splice [vl2, vo2] 1 [subOf 0 (os.length - 1) vo2] = [vl2, subOf 0 (os.length - 1) vo2] from rfl]
   obtain ⟨M9, s9, c9, _⟩ := set1 (e := e2) (h5 := HB) (n5 := kA) (D' := D) (s' := subOf 0 (os.length - 1) vo2) (xs := xo2.take (os.length - 1)) (ms := popL os) sv2 mp2 ml2 mo2 mn2 (fun _ q => q) (fun j q => ⟨sv2.dn j q, fun w => (mn2 j w).2 q, fun w => by rw [hsi] at w; exact (sv2.op j w).2.1 q⟩) (by unfold popL; rw [List.length_take, Nat.min_eq_left (by omega)]; exact hpre) (sv2.oe.take _) (fun j q => .inl (by rw [hsi] at q; exact q)) (fun _ _ _ => rfl) FB (Nat.le_refl _)
   simp only [fgr, Nat.reduceAdd, gE]
   refine ⟨(by (try simp (disch := first | assumption | omega) only [fine, gF]); repeat' (first | rfl | exact (Bool.or_eq_true _ _).mpr (.inr rfl) | refine (Bool.and_eq_true _ _).mpr ⟨?_, ?_⟩)), ?_⟩
   exact fin _ _ D M9 s9 (cB.trans c9) (fun _ q => q) (fun j q => .inl q) he
  have hl1 : leastV c = 1 := by
   by_cases q : c = 115 ∨ c = 130 ∨ c = 107 ∨ c = 121 ∨ c = 122
   ·rw [hlv, if_neg (by omega), if_pos q]
   ·rw [if_neg (by omega), if_neg q] at hlv; omega
  by_cases hls : ls = []
  ·have he : doneE c ls os = 120 := by unfold doneE; rw [if_pos (by rw [hl1, hls]; decide)]
   have hc : ((ls.length : Nat) : Int) = 0 := by rw [hls]; rfl
   simp only [fgr, bor, e116, e108, hc, gE]
   exact ⟨o5n, .inl ⟨by rw [he]; decide, by rw [he]⟩⟩
  have hlp := List.length_pos_iff.2 hls
  have hdone : doneE c ls os = doE c ls os := by unfold doneE; rw [if_neg (by rw [hl1]; omega)]
  have hc : ¬ ((ls.length : Nat) : Int) = 0 := by omega
  have w1 : IntKind.i64.wrap (((ls.length : Nat) : Int) - 1) = ((ls.length - 1 : Nat) : Int) := by rw [w64 (by omega) (by omega)]; omega
  obtain ⟨x, hx1, hx2⟩ := elt sc.le hls
  rw [Nat.sub_zero] at hx1
  simp only [tyr, fgr, bor, moved, e116, e108, hc, gE]
  rw [opv_rd (Row.one (off := 0) sc.row rfl ti53 rfl)]
  simp only [bor, wrapI, w1, gE]
  rw [opv_rd (sc.l.rds.idx (j := ls.length - 1) u53 s22 rfl (by omega))]
  simp only [Nat.mul_one, gE]
  rw [opv_rd (sc.l.rds.load (k := ls.length - 1) ti22 rfl hx1)]
  by_cases e107 : c = 107
  ·subst e107
   have he : doneE 107 ls os = 0 := by rw [hdone, hE0, if_pos rfl]
   simp only [tyr, fgr, bor, moved, gE]
   rw [opv_rd (Row.one (off := 1) sc.row rfl ti53 rfl)]
   simp only [gE]
   rw [bs22 x hx2.1.kind]
   refine opv_row ti22 f5 fun HA gA ooA FA => ?_
   have okA : Old h5 HA (n4 + 1) := fun j hj => ooA j (by omega)
   have scA : StkV HA ((n4 + 1) + 1) D n4 v3 v4 xl xo ls os := sc.keep (by omega) (okA n4 sc.pn) (fun j hj => okA j (by have := (mn1 j (ml1 j hj)).1; omega)) (fun j hj => okA j (by have := (mn1 j (mo1 j hj)).1; omega)) (fun j hj => okA j (sc.dn j hj))
   simp only [builtin, gE]
   refine opv_lst_append (i := ⟨.slice 5, 1, 24, .nils⟩) (e := 22) (k := 1) (ys := [x]) scA.o (row_rds gA rfl) u53 u53 ti22 (by simp [(hx2.1.kind).2.1]) (by decide) (by show 2 * (os.length + 1) * 24 ≤ _; omega) (by omega) FA ?_
   intro wA KA kA hkA GA lA iA qA
   have hpA : KA n4 = some (.row (.l [v3, v4]) 78) := by rw [qA n4 (by have := scA.pn; omega) (fun w => (sc.op n4 w).1 rfl), okA n4 (by omega)]; exact g5
   have kkA := lA.rds.kind
   simp only [tyr, moved, gE]
   rw [opv_wr (Row.write hpA ti53 (by rw [kkA.1]; rfl) (by show 1 + 1 ≤ 2; omega) (by rw [kkA.1]; simp [kkA.2.1]))]
   rw [kkA.1, show splice [v3, v4] 1 [wA] = [v3, wA] from rfl]
   obtain ⟨M7, s7, c7, _⟩ := set1 (e := 78) (h5 := KA) (n5 := kA) (D' := D) (s' := wA) (xs := xo ++ [x]) (ms := os ++ [top ls]) scA mp1 ml1 mo1 (fun j hj => ⟨by have := (mn1 j hj).1; omega, (mn1 j hj).2⟩) (fun _ q => q) (fun j q => ⟨by have := sc.dn j q; omega, fun w => (mn1 j w).2 q, fun w => by
    rcases iA with r | ⟨r, _⟩
    ·rw [r] at w; exact (sc.op j w).2.1 q
    ·rw [r] at w; injection w with w; have := sc.dn j q; omega⟩) (by rw [List.length_append]; exact lA) ((scA.oe.mono (fun _ q => q) (fun j q => qA j (scA.dn j q) (fun w => (sc.op j w).2.1 q))).app (Els.one (hx2.mono (fun _ q => q) (fun j q => by rw [qA j (scA.dn j q) (fun w => (sc.op j w).2.1 q), okA j (sc.dn j q)])))) (fun j q => by
    rcases iA with r | ⟨r, r2⟩
    ·rw [r] at q; exact .inl q
    ·rw [r] at q; injection q with q; exact .inr ⟨by omega, by omega⟩) qA GA hkA
   have cB := (Ch2.of FA (by omega) okA).trans c7
   clear c7
   generalize upd KA n4 _ = HB at *
   obtain ⟨vl2, vo2, xl2, xo2, sv2, mp2, ml2, mo2, mn2⟩ := s7
   obtain ⟨e2, hr2⟩ := sv2.row
   have FB := cB.fr
   simp only [tyr, fgr, moved, gE]
   rw [opv_rd (Row.one (off := 0) sv2.row rfl ti53 rfl)]
   simp only [opt, bor, wrapI, w1, gE]
   rw [opv_rd (sv2.l.rds.head_rd sv2.l.roomy u53 s22 rfl (by omega))]
   have hpre := sv2.l.pre (hi := ls.length - 1) (by omega)
   rw [Nat.mul_one] at hpre
   have hkp := hpre.rds.kind
   simp only [tyr, moved, gE]
   rw [opv_wr (Row.write hr2 ti53 (by rw [hkp.1]; rfl) (by show 0 + 1 ≤ 2; omega) (by rw [hkp.1]; simp [hkp.2.1]))]
   rw [hkp.1, show splice [vl2, vo2] 0 [subOf 0 (ls.length - 1) vl2] = [subOf 0 (ls.length - 1) vl2, vo2] from rfl]
   obtain ⟨s9, o9⟩ := pop_ref sv2 hr2 hlp mp2 ml2 mo2 mn2
   simp only [fgr, gE]
   exact fin _ _ D M7 s9 (cB.trans ⟨Nat.le_refl _, FB.upd (by have := sv2.pn; omega), fun _ q => .inl q, fun j hj hm => o9 j (fun w => hm (by rw [w]; exact mp2))⟩) (fun _ q => q) (fun j q => .inl q) he
  by_cases e115 : c = 115
  ·subst e115
   have he : doneE 115 ls os = 0 := by rw [hdone, hE0]; rfl
   have htl : (top ls).length < 1000000 := by have := top_len hel 0; unfold top; omega
   simp only [fgr, hkr, bor, Int.reduceEq, gE]
   refine opv_same (f22 x (top ls) h5 (n4 + 1) hx2.1 htl) ?_
   cases htv : tv (top ls) with
   | true =>
    have hL : doL 115 ls os = ls ++ [top ls] := by rw [hL0, if_neg (by decide), if_neg (by decide), if_pos rfl, if_pos htv]
    simp only [tyr, fgr, moved, gE]
    rw [opv_rd (Row.one (off := 0) sc.row rfl ti53 rfl)]
    simp only [gE]
    rw [bs22 x hx2.1.kind]
    refine opv_row ti22 f5 fun HA gA ooA FA => ?_
    have okA : Old h5 HA (n4 + 1) := fun j hj => ooA j (by omega)
    have scA : StkV HA ((n4 + 1) + 1) D n4 v3 v4 xl xo ls os := sc.keep (by omega) (okA n4 sc.pn) (fun j hj => okA j (by have := (mn1 j (ml1 j hj)).1; omega)) (fun j hj => okA j (by have := (mn1 j (mo1 j hj)).1; omega)) (fun j hj => okA j (sc.dn j hj))
    simp only [builtin, gE]
    refine opv_lst_append (i := ⟨.slice 5, 1, 24, .nils⟩) (e := 22) (k := 1) (ys := [x]) scA.l (row_rds gA rfl) u53 u53 ti22 (by simp [(hx2.1.kind).2.1]) (by decide) (by show 2 * (ls.length + 1) * 24 ≤ _; omega) (by omega) FA ?_
    intro wA KA kA hkA GA lA iA qA
    have hpA : KA n4 = some (.row (.l [v3, v4]) 78) := by rw [qA n4 (by have := scA.pn; omega) (fun w => (sc.lp n4 w).1 rfl), okA n4 (by omega)]; exact g5
    have kkA := lA.rds.kind
    simp only [tyr, moved, gE]
    rw [opv_wr (Row.write hpA ti53 (by rw [kkA.1]; rfl) (by show 0 + 1 ≤ 2; omega) (by rw [kkA.1]; simp [kkA.2.1]))]
    rw [kkA.1, show splice [v3, v4] 0 [wA] = [wA, v4] from rfl]
    obtain ⟨MA, sA, cA⟩ := put_ref (e := 78) (E := D) scA mp1 ml1 mo1 (fun j hj => ⟨by have := (mn1 j hj).1; omega, (mn1 j hj).2⟩) (hx2.mono (fun _ q => q) fun j hj => okA j (sc.dn j hj)) (fun j q => ⟨by have := sc.dn j q; omega, fun w => (mn1 j w).2 q⟩) lA iA qA GA hkA
    simp only [fgr, gE]
    exact fin _ _ D MA (by rw [hL]; exact sA.same or_idem) ((Ch2.of FA (by omega) okA).trans cA) (fun _ q => q) (fun j q => .inl q) he
   | false =>
    have hL : doL 115 ls os = ls := by rw [hL0, if_neg (by decide), if_neg (by decide), if_pos rfl, if_neg (by rw [htv]; decide)]
    simp only [fgr, gE]
    exact fin _ _ D M1 (by rw [hL]; exact ⟨v3, v4, xl, xo, sc, mp1, ml1, mo1, mn1⟩) ⟨Nat.le_refl _, f5, fun _ q => .inl q, fun _ _ _ => rfl⟩ (fun _ q => q) (fun j q => .inl q) he
  by_cases e130 : c = 130
  ·subst e130
   have he : doneE 130 ls os = 0 := by rw [hdone, hE0]; rfl
   have htl : (top ls).length ≤ 900000 := top_len hel 0
   simp only [fgr, bor, Int.reduceEq, gE]
   refine run_draw ⟨rfl, ?_⟩
   simp only [tyr, moved, Nat.reduceAdd, gE]
   rw [fev_rd (Row.one (off := 0) sc.row rfl ti53 rfl)]
   simp only [hkr, builtin, Nat.reduceAdd, hx2.1.bLen t22, gE]
   refine fev_free f5 (f56n (((top ls).length : Nat) : Int) (by omega) (by omega) _ _) (f56n (((top ls).length : Nat) : Int) (by omega) (by omega) h5 (n4 + 1)) fun v6 h6 n6 hn6 f6 ⟨b6, i6, o6⟩ => ?_
   have sc6 : StkV h6 n6 D n4 v3 v4 xl xo ls os := sc.keep hn6 (o6 n4 (by omega)) (fun j hj => o6 j (mn1 j (ml1 j hj)).1) (fun j hj => o6 j (mn1 j (mo1 j hj)).1) (fun j hj => o6 j (sc.dn j hj))
   have enc : fmB (((top ls).length : Nat) : Int) = encL (((top ls).length : Nat) : Int) := by unfold encL; rw [show wideB (((top ls).length : Nat) : Int) = false by simp [wideB]; omega]
   simp only [Nat.reduceAdd, gE]
   rw [bs22 v6 b6.kind]
   refine fev_row' ti22 f6 fun HA gA ooA FA => ?_
   have okA : Old h6 HA n6 := fun j hj => ooA j (by omega)
   have scA : StkV HA (n6 + 1) D n4 v3 v4 xl xo ls os := sc6.keep (by omega) (okA n4 sc6.pn) (fun j hj => okA j (by have := (mn1 j (ml1 j hj)).1; omega)) (fun j hj => okA j (by have := (mn1 j (mo1 j hj)).1; omega)) (fun j hj => okA j (sc6.dn j hj))
   simp only [builtin, Nat.reduceAdd, gE]
   refine fev_any FA (wp_lst_append (i := ⟨.slice 5, 1, 24, .nils⟩) (e := 22) (Q1 := fun v' h' n' => n6 + 1 ≤ n' ∧ Free h' n' ∧ Lst h' 22 1 v' (ls.length + 1) (xl ++ [v6]) ∧ (ownId v' = ownId v3 ∨ ownId v' = some (n6 + 1) ∧ n6 + 1 < n') ∧ (∀ j, j < n6 + 1 → ownId v3 ≠ some j → h' j = HA j)) scA.l (row_rds gA rfl) u53 u53 ti22 (by simp [(b6.kind).2.1]) (by decide) (by show 2 * (ls.length + 1) * 24 ≤ _; omega) (by omega) FA fun v' h' n' a b c d e => ⟨a, b, c, d, e⟩) fun wA KA kA rA xA hkA GA ⟨_, _, lA, iA, qA⟩ => ?_
   have hrowA : HA n4 = some (.row (.l [v3, v4]) 78) := by rw [okA n4 (by omega), o6 n4 (by omega)]; exact g5
   have hpA : KA n4 = some (.row (.l [v3, v4]) 78) := by rw [qA n4 (by have := scA.pn; omega) (fun w => (sc.lp n4 w).1 rfl)]; exact hrowA
   have kkA := lA.rds.kind
   simp only [tyr, moved, Nat.reduceAdd, gE]
   refine fev_wr (Row.write hpA ti53 (by rw [kkA.1]; rfl) (by show 0 + 1 ≤ 2; omega) (by rw [kkA.1]; simp [kkA.2.1])) ?_
   rw [kkA.1, show splice [v3, v4] 0 [wA] = [wA, v4] from rfl]
   obtain ⟨MA, sA, cA⟩ := put_ref (e := 78) (E := fun j => ownId v6 = some j) scA mp1 ml1 mo1 (fun j hj => ⟨by have := (mn1 j hj).1; omega, (mn1 j hj).2⟩) ⟨b6.keep fun j hj => okA j (i6 j hj).2, fun j q => q⟩ (fun j q => ⟨by have := (i6 j q).2; omega, fun w => by have := (i6 j q).1; have := (mn1 j w).1; omega⟩) lA iA qA GA hkA
   simp only [fgr, Nat.reduceAdd, gE]
   refine ⟨(by (try simp (disch := first | assumption | omega) only [fine, gF]); repeat' (first | rfl | exact (Bool.or_eq_true _ _).mpr (.inr rfl) | refine (Bool.and_eq_true _ _).mpr ⟨?_, ?_⟩)), ?_⟩
   refine fin _ _ (fun j => D j ∨ ownId v6 = some j) MA (by rw [show doL 130 ls os = ls ++ [encL (((top ls).length : Nat) : Int)] from rfl, show doO 130 ls os = os from rfl, ← enc]; exact sA) (((Ch2.of f6 hn6 o6).trans (Ch2.of FA (by omega) okA)).trans cA) (fun _ q => .inl q) (fun j q => q.elim .inl (fun q => .inr (by have := (i6 j q).1; omega))) he
  have hc9 : c = 121 ∨ c = 122 := by
   by_cases q : c = 115 ∨ c = 130 ∨ c = 107 ∨ c = 121 ∨ c = 122
   ·omega
   ·rw [if_neg (by omega), if_neg q] at hlv; omega
  have hfar : doE c ls os = farE ls := by rw [hE0, if_neg e107, if_neg e108, if_neg e115, if_neg e116, if_neg e130]
  have hLf : doL c ls os = farL (decide (c = 122)) ls := by rw [hL0, if_neg e107, if_neg e108, if_neg e115, if_neg e116, if_neg e130]
  have hOf : doO c ls os = os := by rw [hO0, if_neg e107, if_neg e108]
  have sM : Stk h5 (n4 + 1) D M1 n4 ls os := ⟨v3, v4, xl, xo, sc, mp1, ml1, mo1, mn1⟩
  simp only [fgr, hkr, bor, e107, e115, e130, gE]
  refine opv_callf f5 (f78 n4 ls os D M1 h5 (n4 + 1) sM (by omega) hel f5) fun v6 h6 n6 hn6 f6 ⟨e6, s6, c6⟩ => ?_
  subst e6
  have o6n : Old h h6 n := fun j hj => by rw [c6.old j (by omega) (fun w => by have := hM0 j w; omega)]; exact o5n j hj
  by_cases hN : numE ls = 0
  case neg =>
   have he : doneE c ls os = numE ls := by rw [hdone, hfar]; exact if_neg hN
   simp only [fgr, bor, hN, gE]
   exact ⟨o6n, .inl ⟨by rw [he]; exact hN, by rw [he]⟩⟩
  have hnl : numL ls = popL ls := if_pos hN
  rw [hnl] at s6
  have plen := popL_len ls
  simp only [fgr, bor, hN, gE]
  have hfe : farE ls = if 0 ≤ numV ls ∧ numV ls < (popL ls).length then 0 else 120 := if_pos hN
  by_cases k0 : numV ls < 0
  ·have he : doneE c ls os = 120 := by rw [hdone, hfar, hfe, if_neg (by omega)]
   simp only [fgr, doPick, k0, gE]
   exact ⟨o6n, .inl ⟨by rw [he]; decide, by rw [he]⟩⟩
  obtain ⟨vl2, vo2, xl2, xo2, sv2, mp2, ml2, mo2, mn2⟩ := s6
  obtain ⟨e2, hr2⟩ := sv2.row
  simp only [tyr, moved, k0, gE]
  rw [opv_rd (Row.one (off := 0) sv2.row rfl ti53 rfl)]
  by_cases kk1 : (((popL ls).length : Nat) : Int) ≤ numV ls
  ·have he : doneE c ls os = 120 := by rw [hdone, hfar, hfe, if_neg (by omega)]
   simp only [fgr, builtin, bor, doPick, ge_iff_le, sv2.l.rds.bLen u53, kk1, gE]
   exact ⟨o6n, .inl ⟨by rw [he]; decide, by rw [he]⟩⟩
  have he : doneE c ls os = 0 := by rw [hdone, hfar, hfe, if_pos (by omega)]
  obtain ⟨k, hk⟩ : ∃ k : Nat, numV ls = (k : Nat) := ⟨(numV ls).toNat, by omega⟩
  rw [hk] at kk1 k0
  have w2 : IntKind.i64.wrap ((((popL ls).length : Nat) : Int) - 1) = (((popL ls).length - 1 : Nat) : Int) := by rw [w64 (by omega) (by omega)]; omega
  have w3' : IntKind.i64.wrap ((((popL ls).length - 1 : Nat) : Int) - ((k : Nat) : Int)) = (((popL ls).length - 1 - k : Nat) : Int) := by rw [w64 (by omega) (by omega)]; omega
  have wk : IntKind.i64.wrap ((k : Nat) : Int) = ((k : Nat) : Int) := w64 (by omega) (by omega)
  have wl : IntKind.i64.wrap (((popL ls).length : Nat) : Int) = (((popL ls).length : Nat) : Int) := w64 (by omega) (by omega)
  obtain ⟨b, hb1, hb2⟩ := elx sv2.le (k := k) (by omega)
  have htop : topL (popL ls) (numV ls) = (popL ls).getD ((popL ls).length - 1 - k) [] := by rw [hk]; unfold topL; rw [if_pos (by omega), Int.toNat_natCast]
  simp only [tyr, fgr, builtin, bor, doPick, moved, ge_iff_le, sv2.l.rds.bLen u53, hk, kk1, gE]
  rw [opv_rd (Row.one (off := 0) sv2.row rfl ti53 rfl)]
  simp only [tyr, fgr, builtin, bor, wrapI, moved, sv2.l.rds.bLen u53, w2, w3', gE]
  rw [opv_rd (Row.one (off := 0) sv2.row rfl ti53 rfl)]
  simp only [gE]
  rw [opv_rd (sv2.l.rds.idx (j := (popL ls).length - 1 - k) u53 s22 rfl (by omega))]
  simp only [Nat.mul_one, gE]
  rw [opv_rd (sv2.l.rds.load (k := (popL ls).length - 1 - k) ti22 rfl hb1)]
  by_cases e122 : c = 122
  ·have hL : doL c ls os = outI (popL ls) ((popL ls).length - 1 - k) ++ [(popL ls).getD ((popL ls).length - 1 - k) []] := by rw [hLf]; unfold farL; rw [decide_eq_true e122, htop, hk, Int.toNat_natCast]
   simp only [fgr, bor, e122, gE]
   have w5 : IntKind.i64.wrap ((((popL ls).length - 1 - k : Nat) : Int) + 1) = (((popL ls).length - 1 - k + 1 : Nat) : Int) := by rw [w64 (by omega) (by omega)]; omega
   obtain ⟨at_, hat⟩ : ∃ a, a = (popL ls).length - 1 - k := ⟨_, rfl⟩
   rw [← hat] at w5 hL hb1 hb2 ⊢
   have hal : at_ < (popL ls).length := by omega
   refine run_draw ⟨rfl, ?_⟩
   simp only [tyr, moved, Nat.reduceAdd, gE]
   rw [fev_rd (Row.one (off := 0) sv2.row rfl ti53 rfl)]
   simp only [opt, Nat.reduceAdd, gE]
   rw [fev_rd (sv2.l.rds.head_rd sv2.l.roomy u53 s22 rfl (Nat.le_of_lt hal))]
   simp only [hkr, Nat.reduceAdd, gE]
   have hpre := sv2.l.pre (hi := at_) (Nat.le_of_lt hal)
   rw [Nat.mul_one] at hpre
   have hsi : ownId (subOf 0 at_ vl2) = ownId vl2 := sub_id _ _ _
   have hS2 : ∀ j, ownId (subOf 0 at_ vl2) = some j → decide (ownId vl2 = some j) = true := fun j hj => decide_eq_true (by rw [← hsi]; exact hj)
   refine fev_in (fun j => decide (ownId vl2 = some j)) f6 (f109 _ at_ _ _ n6 (hpre.rds.keep fun j hj => only_in (hS2 j hj)) (sv2.le.take _).cells (by omega) f6.only) fun v7 h7 n7 r7 w7 hr7 hn7 f7 ⟨l7, i7, o7⟩ a7 b7 cr7 cw7 => ?_
   have l7 : Lst h7 22 1 v7 at_ (xl2.take at_) := l7.keep fun j hj => a7 j (.inr (i7 j hj).1)
   have o7 : Old h6 h7 n6 := fun j hj => by
    by_cases q : ownId vl2 = some j
    ·rw [a7 j (.inl (decide_eq_true q)), o7 j hj, only_in (decide_eq_true q)]
    ·exact b7 j hj (decide_eq_false q)
   have xp7 : n4 ∉ w7 := not_in cw7 (decide_eq_false fun q => (sv2.lp n4 q).1 rfl)
   have pn6 : n4 < n6 := sv2.pn
   have hrow7 : h7 n4 = some (.row (.l [vl2, vo2]) e2) := (o7 n4 sv2.pn).trans hr2
   have sv7 : StkV h7 n7 D n4 vl2 vo2 xl2 xo2 (popL ls) os := sv2.keep hn7 (o7 n4 sv2.pn) (fun j hj => o7 j (mn2 j (ml2 j hj)).1) (fun j hj => o7 j (mn2 j (mo2 j hj)).1) (fun j hj => o7 j (sv2.dn j hj))
   simp only [tyr, moved, Nat.reduceAdd, gE]
   rw [fev_rd (Row.one (off := 0) sv7.row rfl ti53 rfl)]
   simp only [opt, bor, wrapI, Nat.reduceAdd, w5, gE]
   rw [fev_rd (sv7.l.rds.tail_rd u53 s22 rfl (by omega))]
   simp only [builtin, Nat.reduceAdd, gE]
   have hsub := sv7.l.rds.sub (lo := at_ + 1) (hi := (popL ls).length) (by omega) (Nat.le_refl _)
   rw [Nat.mul_one, Nat.mul_one, List.take_of_length_le (by rw [List.length_drop, sv7.le.len]; omega)] at hsub
   have hcd : (xl2.drop (at_ + 1)).all oneCell = true := (sv7.le.drop _).cells
   refine fev_any f7 (wp_lst_append (i := ⟨.slice 5, 1, 24, .nils⟩) (e := 22) (Q1 := fun v' h' n' => n7 ≤ n' ∧ Free h' n' ∧ Lst h' 22 1 v' (at_ + ((popL ls).length - (at_ + 1))) (xl2.take at_ ++ xl2.drop (at_ + 1)) ∧ (ownId v' = ownId v7 ∨ ownId v' = some n7 ∧ n7 < n') ∧ (∀ j, j < n7 → ownId v7 ≠ some j → h' j = h7 j)) l7 hsub u53 u53 ti22 hcd (by decide) (by show 2 * (at_ + ((popL ls).length - (at_ + 1))) * 24 ≤ _; omega) (by omega) f7 fun v' h' n' a b c d e => ⟨a, b, c, d, e⟩) fun v8 h8 n8 r8 w8 hn8 f8 ⟨_, _, l8, i8, o8⟩ => ?_
   have hv7 : ∀ j, ownId v7 = some j → n6 ≤ j ∧ j < n7 := i7
   have o68 : ∀ j, j < n6 → h8 j = h6 j := fun j hj => by rw [o8 j (by omega) (fun w => by have := i7 j w; omega)]; exact o7 j hj
   have hp8 : h8 n4 = some (.row (.l [vl2, vo2]) e2) := by rw [o68 n4 sv2.pn]; exact hr2
   have kk8 := l8.rds.kind
   have hi8 : ∀ j, ownId v8 = some j → n6 ≤ j ∧ j < n8 := fun j q => by
    rcases i8 with r | ⟨r, r2⟩
    ·rw [r] at q; have := i7 j q; exact ⟨this.1, by omega⟩
    ·rw [r] at q; injection q with q; omega
   simp only [tyr, moved, Nat.reduceAdd, gE]
   refine fev_wr (Row.write hp8 ti53 (by rw [kk8.1]; rfl) (by show 0 + 1 ≤ 2; omega) (by rw [kk8.1]; simp [kk8.2.1])) ?_
   rw [kk8.1, show splice [vl2, vo2] 0 [v8] = [v8, vo2] from rfl]
   obtain ⟨M9, s9, c9, _⟩ := set0 (e := e2) (h5 := h8) (n5 := n8) (D' := D) (s' := v8) (xs := xl2.take at_ ++ xl2.drop (at_ + 1)) (ms := outI (popL ls) at_) sv2 mp2 ml2 mo2 mn2 (fun _ q => q) (fun j q => ⟨by have := sv2.dn j q; omega, fun w => (mn2 j w).2 q, fun w => by have := hi8 j w; have := sv2.dn j q; omega⟩) (by rw [outI_len2 hal]; exact l8) (((sv2.le.take _).app (sv2.le.drop _)).mono (fun _ q => q) (fun j q => o68 j (sv2.dn j q))) (fun j q => .inr (hi8 j q)) (fun j q _ => o68 j q) f8 (by omega)
   simp only [tyr, fgr, moved, Nat.reduceAdd, gE]
   refine ⟨(by (try simp (disch := first | assumption | omega) only [fine, gF]); repeat' (first | rfl | exact (Bool.or_eq_true _ _).mpr (.inr rfl) | refine (Bool.and_eq_true _ _).mpr ⟨?_, ?_⟩)), ?_⟩
   have f9 := c9.fr
   have hb3 := hb2
   have hbd := hb2.2
   have dk9 : ∀ j, D j → upd h8 n4 (some (.row (.l [v8, vo2]) e2)) j = h6 j := fun j q => by
    rw [upd_ne _ _ (fun w => sv2.pd (by rw [← w]; exact q))]; exact o68 j (sv2.dn j q)
   have hb2 := hb3.mono (fun _ q => q) dk9
   generalize upd h8 n4 _ = h9 at *
   have olen : (outI (popL ls) at_).length ≤ 1000 := by rw [outI_len2 hal]; omega
   obtain ⟨vl3, vo3, xl3, xo3, sv3, mp3, ml3, mo3, mn3⟩ := s9
   obtain ⟨e3, hr3⟩ := sv3.row
   rw [opv_rd (Row.one (off := 0) sv3.row rfl ti53 rfl)]
   simp only [gE]
   rw [bs22 b hb2.1.kind]
   refine opv_row ti22 f9 fun HB gB ooB FB => ?_
   have okB : Old h9 HB n8 := fun j hj => ooB j (by omega)
   have scB : StkV HB (n8 + 1) D n4 vl3 vo3 xl3 xo3 (outI (popL ls) at_) os := sv3.keep (by omega) (okB n4 sv3.pn) (fun j hj => okB j (by have := (mn3 j (ml3 j hj)).1; omega)) (fun j hj => okB j (by have := (mn3 j (mo3 j hj)).1; omega)) (fun j hj => okB j (sv3.dn j hj))
   simp only [builtin, gE]
   refine opv_lst_append (i := ⟨.slice 5, 1, 24, .nils⟩) (e := 22) (k := 1) (ys := [b]) scB.l (row_rds gB rfl) u53 u53 ti22 (by simp [(hb2.1.kind).2.1]) (by decide) (by show 2 * ((outI (popL ls) at_).length + 1) * 24 ≤ _; omega) (by omega) FB ?_
   intro wB KB kB hkB GB lB iB qB
   have hpB : KB n4 = some (.row (.l [vl3, vo3]) e3) := by rw [qB n4 (by have := scB.pn; omega) (fun w => (sv3.lp n4 w).1 rfl), okB n4 (by omega)]; exact hr3
   have kkB := lB.rds.kind
   simp only [tyr, moved, gE]
   rw [opv_wr (Row.write hpB ti53 (by rw [kkB.1]; rfl) (by show 0 + 1 ≤ 2; omega) (by rw [kkB.1]; simp [kkB.2.1]))]
   rw [kkB.1, show splice [vl3, vo3] 0 [wB] = [wB, vo3] from rfl]
   obtain ⟨MB, sB, cB⟩ := put_ref (e := e3) (E := D) scB mp3 ml3 mo3 (fun j hj => ⟨by have := (mn3 j hj).1; omega, (mn3 j hj).2⟩) (hb2.mono (fun _ q => q) fun j hj => okB j (sv3.dn j hj)) (fun j q => ⟨by have := sv3.dn j q; omega, fun w => (mn3 j w).2 q⟩) lB iB qB GB hkB
   simp only [fgr, gE]
   have hfin := fin _ _ D MB (by rw [hL, hOf]; exact sB.same or_idem) (c6.trans (c9.trans ((Ch2.of FB (by omega) okB).trans cB))) (fun _ q => q) (fun j q => .inl q) he
   rw [e122] at hfin
   exact hfin
  ·simp only [tyr, fgr, bor, moved, e122, gE]
   rw [opv_rd (Row.one (off := 0) sv2.row rfl ti53 rfl)]
   simp only [gE]
   rw [bs22 b hb2.1.kind]
   refine opv_row ti22 f6 fun HB gB ooB FB => ?_
   have okB : Old h6 HB n6 := fun j hj => ooB j (by omega)
   have scB : StkV HB (n6 + 1) D n4 vl2 vo2 xl2 xo2 (popL ls) os := sv2.keep (by omega) (okB n4 sv2.pn) (fun j hj => okB j (by have := (mn2 j (ml2 j hj)).1; omega)) (fun j hj => okB j (by have := (mn2 j (mo2 j hj)).1; omega)) (fun j hj => okB j (sv2.dn j hj))
   simp only [builtin, gE]
   refine opv_lst_append (i := ⟨.slice 5, 1, 24, .nils⟩) (e := 22) (k := 1) (ys := [b]) scB.l (row_rds gB rfl) u53 u53 ti22 (by simp [(hb2.1.kind).2.1]) (by decide) (by show 2 * ((popL ls).length + 1) * 24 ≤ _; omega) (by omega) FB ?_
   intro wB KB kB hkB GB lB iB qB
   have hpB : KB n4 = some (.row (.l [vl2, vo2]) e2) := by rw [qB n4 (by have := scB.pn; omega) (fun w => (sv2.lp n4 w).1 rfl), okB n4 (by omega)]; exact hr2
   have kkB := lB.rds.kind
   simp only [tyr, moved, gE]
   rw [opv_wr (Row.write hpB ti53 (by rw [kkB.1]; rfl) (by show 0 + 1 ≤ 2; omega) (by rw [kkB.1]; simp [kkB.2.1]))]
   rw [kkB.1, show splice [vl2, vo2] 0 [wB] = [wB, vo2] from rfl]
   obtain ⟨MB, sB, cB⟩ := put_ref (e := e2) (E := D) scB mp2 ml2 mo2 (fun j hj => ⟨by have := (mn2 j hj).1; omega, (mn2 j hj).2⟩) (hb2.mono (fun _ q => q) fun j hj => okB j (sv2.dn j hj)) (fun j q => ⟨by have := sv2.dn j q; omega, fun w => (mn2 j w).2 q⟩) lB iB qB GB hkB
   have hL : doL c ls os = popL ls ++ [(popL ls).getD ((popL ls).length - 1 - k) []] := by rw [hLf]; unfold farL; rw [decide_eq_false e122, htop]
   simp only [fgr, gE]
   exact fin _ _ D MB (by rw [hL, hOf]; exact sB.same or_idem) (c6.trans ((Ch2.of FB (by omega) okB).trans cB)) (fun _ q => q) (fun j q => .inl q) he
theorem b78z : build env 78 [] = M.pure (.agg [.nils, .nils]) := rfl
end Go.Am.Ytmoplhbncjicbaa
set_option linter.unusedSimpArgs false
set_option linter.unusedVariables false
set_option linter.defProp false
set_option maxRecDepth 10000
namespace Go.Am.Ytmoplhbncjicbaa
open Go Go.Am Go.Proofs
set_option maxHeartbeats 4000000 in
theorem loop47 (Q : Post0) (ks : List Kf) (p n0 : Nat) (v : AVal) (xs : List AVal) (ls : List (List UInt8)) (D0 : Nat → Prop) (h0 : Hp) (hlen : ls.length ≤ 5000) (hv : Rds h0 1 v ls.length xs) (hvn : ∀ j, ownId v = some j → j < n0) (hel : Els h0 D0 xs ls) (hd0 : ∀ j, D0 j → j < n0)
    (hq : ∀ (h : Hp) n (x11 x19 x36 : AVal), ls.any longB = false → StkN h n n0 p ls [] → Old h0 h n0 → n0 ≤ n → Free h n → Kont env 47 none Q ks (.exit 0) (v :: AVal.junk :: .nilp :: .int .i64 0 :: .ptr p 0 :: .int .i64 (ls.length : Nat) :: AVal.junk :: AVal.junk :: AVal.junk :: AVal.junk :: AVal.junk :: x11 :: AVal.junk :: AVal.junk :: AVal.junk :: AVal.junk :: AVal.junk :: AVal.junk :: AVal.junk :: x19 :: AVal.junk :: AVal.junk :: AVal.junk :: AVal.junk :: AVal.junk :: AVal.junk :: AVal.junk :: AVal.junk :: AVal.junk :: AVal.junk :: AVal.junk :: AVal.junk :: AVal.junk :: AVal.junk :: AVal.junk :: AVal.junk :: x36 :: AVal.junk :: []) h n)
    (hr : ∀ (h : Hp) n (z : AVal) (x11 x19 x36 : AVal), ls.any longB = true → Old h0 h n0 → n0 ≤ n → Free h n → Kont env 47 none Q ks .ret (v :: AVal.junk :: .nilp :: .int .i64 120 :: .ptr p 0 :: z :: AVal.junk :: AVal.junk :: AVal.junk :: AVal.junk :: AVal.junk :: x11 :: AVal.junk :: AVal.junk :: AVal.junk :: AVal.junk :: AVal.junk :: AVal.junk :: AVal.junk :: x19 :: AVal.junk :: AVal.junk :: AVal.junk :: AVal.junk :: AVal.junk :: AVal.junk :: AVal.junk :: AVal.junk :: AVal.junk :: AVal.junk :: AVal.junk :: AVal.junk :: AVal.junk :: AVal.junk :: AVal.junk :: AVal.junk :: x36 :: AVal.junk :: []) h n) :
    ∀ (m i : Nat) (h : Hp) (n : Nat) (x11 x19 x36 : AVal), i + m = ls.length → (ls.take i).any longB = false → StkN h n n0 p (ls.take i) [] → Old h0 h n0 → n0 ≤ n → Free h n →
    Run env 47 none Q (.loop lp47_0) ks (v :: AVal.junk :: .nilp :: .int .i64 0 :: .ptr p 0 :: .int .i64 (i : Nat) :: AVal.junk :: AVal.junk :: AVal.junk :: AVal.junk :: AVal.junk :: x11 :: AVal.junk :: AVal.junk :: AVal.junk :: AVal.junk :: AVal.junk :: AVal.junk :: AVal.junk :: x19 :: AVal.junk :: AVal.junk :: AVal.junk :: AVal.junk :: AVal.junk :: AVal.junk :: AVal.junk :: AVal.junk :: AVal.junk :: AVal.junk :: AVal.junk :: AVal.junk :: AVal.junk :: AVal.junk :: AVal.junk :: AVal.junk :: x36 :: AVal.junk :: []) h n := by
  intro m
  induction m with
  | zero =>
    intro i h n x11 x19 x36 hi hs st old hn hf
    have : i = ls.length := by omega
    subst this
    have hc : ¬ ((ls.length : Nat) : Int) < ((ls.length : Nat) : Int) := by omega
    have hvh : Rds h 1 v ls.length xs := hv.keep fun j hj => old j (hvn j hj)
    rw [run_loop]
    simp only [lp47_0, loopsOf, Try.f47, Option.getD_some, fgr, builtin, bor, List.getD_cons_zero, hvh.bLen u53, hc, gE]
    rw [List.take_length] at hs st
    exact hq h n _ _ _ hs st old hn hf
  | succ m ih =>
    intro i h n x11 x19 x36 hi hs st old hn hf
    have hil : i < ls.length := by omega
    have hc : ((i : Nat) : Int) < ((ls.length : Nat) : Int) := by omega
    have hw : IntKind.i64.wrap (((i : Nat) : Int) + 1) = ((i + 1 : Nat) : Int) := by rw [w64 (by omega) (by omega)]; omega
    obtain ⟨x, hx1, hx2⟩ := hel.get hil
    have hvh : Rds h 1 v ls.length xs := hv.keep fun j hj => old j (hvn j hj)
    have hbx : Bytes h x ls[i] := hx2.1.keep fun j hj => old j (hd0 j (hx2.2 j hj))
    rw [run_loop]
    simp only [lp47_0, loopsOf, Try.f47, Option.getD_some, fgr, builtin, bor, List.getD_cons_zero, hvh.bLen u53, hc, gE]
    rw [opv_rd (hvh.idx (j := i) u53 s22 rfl hil)]
    simp only [Nat.mul_one, gE]
    rw [opv_rd (hvh.load (k := i) ti22 rfl hx1)]
    by_cases hlong : 520 < ls[i].length
    · have hc2 : 520 < ((ls[i].length : Nat) : Int) := by omega
      simp only [fgr, builtin, bor, gt_iff_lt, hbx.bLen t22, hc2, gE]
      refine hr h n _ _ _ _ ?_ old hn hf
      rw [List.any_eq_true]
      exact ⟨ls[i], List.getElem_mem hil, decide_eq_true hlong⟩
    have hc2 : ¬ 520 < ((ls[i].length : Nat) : Int) := by omega
    simp only [fgr, builtin, bor, gt_iff_lt, hbx.bLen t22, hc2, gE]
    obtain ⟨D, M, s0, hd, hm⟩ := st
    have s0' := s0
    obtain ⟨vl, vo, xl, xo, sv, mp, ml, mo, mn⟩ := s0
    obtain ⟨er, hrow⟩ := sv.row
    have hpn := sv.pn
    have hpn0 := hm p mp
    refine run_draw ⟨rfl, ?_⟩
    simp only [tyr, moved, Nat.reduceAdd, gE]
    rw [fev_rd (Row.one (off := 0) sv.row rfl ti53 rfl)]
    simp only [Nat.reduceAdd, gE]
    rw [fev_rd (hvh.idx (j := i) u53 s22 rfl hil)]
    simp only [Nat.reduceAdd, Nat.mul_one, gE]
    rw [fev_rd (hvh.load (k := i) ti22 rfl hx1)]
    simp only [hkr, Nat.reduceAdd, gE]
    have hS : ∀ j, ownId x = some j → decide (ownId x = some j) = true := fun j hj => decide_eq_true hj
    refine fev_in (fun j => decide (ownId x = some j)) hf (f73 x ls[i] _ n (hbx.keep fun j hj => only_in (hS j hj)) (by omega) hf.only) fun v3 h3 n3 r3 w3 hr3 hn3 f3 ⟨b3, i3, o3⟩ a3 q3 cr3 cw3 => ?_
    have b3 : Bytes h3 v3 ls[i] := b3.keep fun j hj => a3 j (.inr (i3 j hj).1)
    have o3 : Old h h3 n := fun j hj => by
      by_cases q : ownId x = some j
      · rw [a3 j (.inl (hS j q)), o3 j hj, only_in (hS j q)]
      · exact q3 j hj (decide_eq_false q)
    have xp : p ∉ w3 := not_in cw3 (decide_eq_false fun q => by have := hd0 p (hx2.2 p q); omega)
    simp only [Nat.reduceAdd, gE]
    rw [bs22 v3 b3.kind]
    refine fev_row' ti22 f3 fun h4 g4 o4 f4 => ?_
    have o4' : Old h h4 n := fun j hj => by rw [o4 j (by omega), o3 j hj]
    have hs4 := s0'.old (n' := n3 + 1) (by omega) o4'
    have sv4 : StkV h4 (n3 + 1) D p vl vo xl xo (ls.take i) [] := sv.keep (by omega) (o4' p sv.pn) (fun j hj => o4' j (mn j (ml j hj)).1) (fun j hj => o4' j (mn j (mo j hj)).1) (fun j hj => o4' j (sv.dn j hj))
    have hti : (ls.take i).length ≤ 5000 := by rw [List.length_take]; omega
    simp only [builtin, Nat.reduceAdd, gE]
    refine fev_any f4 (wp_lst_append (i := ⟨.slice 5, 1, 24, .nils⟩) (e := 22) (Q1 := fun v' h' n' => n3 + 1 ≤ n' ∧ Free h' n' ∧ Lst h' 22 1 v' ((ls.take i).length + 1) (xl ++ [v3]) ∧ (ownId v' = ownId vl ∨ ownId v' = some (n3 + 1) ∧ n3 + 1 < n') ∧ (∀ j, j < n3 + 1 → ownId vl ≠ some j → h' j = h4 j)) sv4.l (row_rds g4 rfl) u53 u53 ti22 (by simp [b3.kind.2.1]) (by decide) (by show 2 * ((ls.take i).length + 1) * 24 ≤ _; omega) (by omega) f4 fun v' h' n' a b c d e => ⟨a, b, c, d, e⟩) fun v5 h5 n5 r5 w5 hn5 f5 ⟨_, _, l5, i5, o5⟩ => ?_
    have hp5 : h5 p = some (.row (.l [vl, vo]) er) := by rw [o5 p (by have := sv.pn; omega) (fun q => (sv.lp p q).1 rfl), o4' p sv.pn]; exact hrow
    have hk := l5.rds.kind
    simp only [tyr, moved, Nat.reduceAdd, gE]
    refine fev_wr (Row.write hp5 ti53 (by rw [hk.1]; rfl) (by show 0 + 1 ≤ 2; omega) (by rw [hk.1]; simp [hk.2.1])) ?_
    rw [hk.1, show splice [vl, vo] 0 [v5] = [v5, vo] from rfl]
    obtain ⟨M', s6, c6⟩ := put_ref (e := er) (E := fun j => ownId v3 = some j) sv4 mp ml mo (fun j hj => ⟨by have := (mn j hj).1; omega, (mn j hj).2⟩) ⟨b3.keep fun j hj => o4 j (by have := (i3 j hj).2; omega), fun j q => q⟩ (fun j q => ⟨by have := (i3 j q).2; omega, fun w => by have := (i3 j q).1; have := (mn j w).1; omega⟩) l5 i5 o5 f5 hn5
    simp only [fgr, bor, wrapI, Nat.reduceAdd, gE]
    refine ⟨(by (try simp (disch := first | assumption | omega) only [fine, gF]); repeat' (first | rfl | exact (Bool.or_eq_true _ _).mpr (.inr rfl) | refine (Bool.and_eq_true _ _).mpr ⟨?_, ?_⟩)), ?_⟩
    simp only [hw]
    refine ih (i + 1) _ n5 _ _ _ (by omega) (any_succ hil hs hlong) ⟨fun j => D j ∨ ownId v3 = some j, M', ?_, fun j hj => hj.elim (hd j) (fun q => by have := (i3 j q).1; omega), fun j hj => (c6.m' j hj).elim (hm j) (fun q => by omega)⟩ (fun j hj => by rw [c6.old j (by omega) (fun q => by have := hm j q; omega), o4' j (by omega), old j hj]) (by omega) c6.fr
    rw [List.take_add_one, List.getElem?_eq_getElem hil, Option.toList_some]
    exact s6
theorem f47 (v : AVal) (xs : List AVal) (ls : List (List UInt8)) (D0 : Nat → Prop) (h : Hp) (n : Nat) (hlen : ls.length ≤ 5000) (hv : Rds h 1 v ls.length xs) (hvn : ∀ j, ownId v = some j → j < n) (hel : Els h D0 xs ls) (hd0 : ∀ j, D0 j → j < n) (hf : Free h n) :
    Wp (callI env (evalW env) 47 [v]) h n fun v' h' n' => Old h h' n ∧ ((newE ls ≠ 0 ∧ v' = .tup [.nilp, .int .i64 (newE ls)]) ∨ (newE ls = 0 ∧ ∃ p, v' = .tup [.ptr p 0, .int .i64 0] ∧ StkN h' n' n p ls [])) := by
  refine wp_callI ff47 fi47 ?_
  simp only [fu47, Try.f47, Option.getD_some, List.replicate, fgr, Nat.reduceSub, b78z, gE]
  refine opv_box (v := .agg [.nils, .nils]) ti78 rfl hf fun h1 p1 o1 f1 => ?_
  obtain ⟨e1, p1⟩ := p1
  have p1 : h1 n = some (.row (.l [.nils, .nils]) e1) := p1
  have o1' : Old h h1 n := fun j hj => o1 j (by omega)
  have hv1 : Rds h1 1 v ls.length xs := hv.keep fun j hj => o1' j (hvn j hj)
  simp only [fgr, gE]
  have st : StkN h1 (n + 1) n n [] [] := ⟨fun _ => False, fun j => j = n, ⟨.nils, .nils, [], [], ⟨⟨_, p1⟩, .nil, Els.nil _ _, .nil, Els.nil _ _, by omega, fun j hj => hj.elim, fun q => q, fun j hj => (by cases hj), fun j hj => (by cases hj)⟩, rfl, fun j hj => (by cases hj), fun j hj => (by cases hj), fun j hj => ⟨by omega, fun q => q⟩⟩, fun j hj => hj.elim, fun j hj => by omega⟩
  refine loop47 _ _ n n v xs ls D0 h hlen hv hvn hel hd0 ?_ ?_ ls.length 0 h1 (n + 1) _ _ _ (by omega) rfl st o1' (by omega) f1
  · intro h2 n2 x11 x19 x36 ha st2 old2 hn2 f2
    have hv2 : Rds h2 1 v ls.length xs := hv.keep fun j hj => old2 j (hvn j hj)
    by_cases hm2 : 100 < ls.length
    · have he : newE ls = 121 := by unfold newE; rw [if_neg (by rw [ha]; decide), if_pos hm2]
      have hc : 100 < ((ls.length : Nat) : Int) := by omega
      simp only [fgr, builtin, bor, gt_iff_lt, hv2.bLen u53, hc, gE]
      exact ⟨old2, .inl ⟨by rw [he]; decide, by rw [he]⟩⟩
    · have he : newE ls = 0 := by unfold newE; rw [if_neg (by rw [ha]; decide), if_neg hm2]
      have hc : ¬ 100 < ((ls.length : Nat) : Int) := by omega
      simp only [fgr, builtin, bor, gt_iff_lt, hv2.bLen u53, hc, gE]
      exact ⟨old2, .inr ⟨he, n, rfl, st2⟩⟩
  · intro h2 n2 z x11 x19 x36 ha old2 hn2 f2
    have he : newE ls = 120 := if_pos ha
    simp only [core1, nth, true_and]
    exact ⟨old2, .inl ⟨by rw [he]; decide, by rw [he]⟩⟩
set_option maxHeartbeats 4000000 in
theorem f74 (p : Nat) (c : Int) (ls os : List (List UInt8)) (D M : Nat → Prop) (h : Hp) (n : Nat) (hs : Stk h n D M p ls os) (hn : ls.length + os.length ≤ 100) (hel : ∀ l ∈ ls, l.length ≤ 900000) (hf : Free h n) :
    Wp (callI env (evalW env) 74 [.ptr p 0, .int .u8 c]) h n fun v' h' n' => v' = .int .i64 (allE c ls os) ∧ ∃ D' M', Stk h' n' D' M' p (allL c ls os) (allO c ls os) ∧ Chg h n D M h' n' D' M' := by
  refine wp_callI ff74 fi74 ?_
  have fail_ : ∀ (e : Int) (H : Hp) (N : Nat), allE c ls os = e → e ≠ 0 → n ≤ N → Free H N → Old h H n → (AVal.int .i64 e = .int .i64 (allE c ls os) ∧ ∃ D' M', Stk H N D' M' p (allL c ls os) (allO c ls os) ∧ Chg h n D M H N D' M') := fun e H N he h0 hN hF hO => by
    have h0' : ¬ allE c ls os = 0 := by rw [he]; exact h0
    refine ⟨by rw [he], D, M, ?_, old_chg hF hN hO⟩
    unfold allL allO
    rw [if_neg h0', if_neg h0']; exact hs.old hN hO
  by_cases d1 : leastV c < 0
  · have : ¬ 0 ≤ leastV c := by omega
    have he : allE c ls os = 2 := if_pos d1
    simp only [fu74, Try.f74, Option.getD_some, List.replicate, fgr, hkr, unOp, Nat.reduceAdd, Nat.reduceSub, c49, this, gE]
    exact fail_ 2 h n he (by decide) (Nat.le_refl _) hf (Old.refl _ _)
  have d1' : 0 ≤ leastV c := by omega
  simp only [fu74, Try.f74, Option.getD_some, List.replicate, fgr, hkr, unOp, Nat.reduceAdd, Nat.reduceSub, c49, d1', gE]
  refine opv_callf hf (f104 p c ls os D M h n hs hn hel d1' hf) fun v1 h1 n1 hn1 f1 ⟨o1, hh⟩ => ?_
  rcases hh with ⟨hE, e1⟩ | ⟨hE, q, D1, M1, e1, s1, d2, d3, m3⟩
  · subst e1
    have he : allE c ls os = doneE c ls os := by
      unfold allE
      unfold doneE at hE ⊢
      rw [if_neg d1]
      by_cases q : (ls.length : Int) < leastV c
      · rw [if_pos q, if_pos q]
      · rw [if_neg q] at hE
        rw [if_neg q, if_neg q, if_neg hE]
    simp only [fgr, bor, hE, gE]
    exact fail_ _ h1 n1 he hE hn1 f1 o1
  subst e1
  have hdo : ¬ (ls.length : Int) < leastV c ∧ doE c ls os = 0 := by
    unfold doneE at hE
    by_cases q : (ls.length : Int) < leastV c
    · rw [if_pos q] at hE; exact absurd hE (by decide)
    · rw [if_neg q] at hE; exact ⟨q, hE⟩
  have he' : allE c ls os = if (doL c ls os).length + (doO c ls os).length ≤ 100 then 0 else 121 := by unfold allE; rw [if_neg d1, if_neg hdo.1, if_pos hdo.2]
  have bl : (doL c ls os).length + (doO c ls os).length ≤ 1000000 := by
    have b1 : (doL c ls os).length ≤ ls.length + 6 := by
      unfold doL
      cases hfm : frm c with
      | some x =>
        have := frm_ok hfm
        simp only [List.length_append, List.length_take, pickL, List.length_map]
        omega
      | none =>
        have p1 := popL_len ls
        simp only
        repeat' split
        all_goals (try simp only [List.length_append, List.length_singleton, p1])
        all_goals (try omega)
        unfold farL
        have p2 := popL_len ls
        split <;> simp only [List.length_append, List.length_singleton, outI, List.length_take, List.length_drop] <;> omega
    have b2 : (doO c ls os).length ≤ os.length + 1 := by
      unfold doO
      have p1 := popL_len os
      split
      · omega
      · repeat' split
        all_goals (try simp only [List.length_append, List.length_singleton, p1])
        all_goals omega
    omega
  obtain ⟨wl, wo, zl, zo, tv, tp, tl, to_, tn⟩ := s1
  obtain ⟨ec, hrc⟩ := tv.row
  have w1 : IntKind.i64.wrap ((((doL c ls os).length : Nat) : Int) + (((doO c ls os).length : Nat) : Int)) = (((doL c ls os).length + (doO c ls os).length : Nat) : Int) := by rw [w64 (by omega) (by omega)]; omega
  simp only [fgr, bor, gE]
  refine run_draw ⟨rfl, ?_⟩
  simp only [tyr, moved, Nat.reduceAdd, gE]
  rw [fev_rd (Row.one (off := 0) tv.row rfl ti53 rfl)]
  simp only [tyr, builtin, moved, Nat.reduceAdd, tv.l.rds.bLen u53, gE]
  rw [fev_rd (Row.one (off := 1) tv.row rfl ti53 rfl)]
  simp only [fgr, builtin, bor, wrapI, Nat.reduceAdd, gt_iff_lt, tv.o.rds.bLen u53, w1, gE]
  by_cases hm : (doL c ls os).length + (doO c ls os).length ≤ 100
  case neg =>
    have he : allE c ls os = 121 := by rw [he', if_neg hm]
    have hc : 100 < (((doL c ls os).length + (doO c ls os).length : Nat) : Int) := by omega
    simp only [fgr, hc, gE]
    refine ⟨(by (try simp (disch := first | assumption | omega) only [fine, gF]); repeat' (first | rfl | exact (Bool.or_eq_true _ _).mpr (.inr rfl) | refine (Bool.and_eq_true _ _).mpr ⟨?_, ?_⟩)), ?_⟩
    exact fail_ 121 h1 n1 he (by decide) (by omega) f1 o1
  have he : allE c ls os = 0 := by rw [he', if_pos hm]
  have hc : ¬ 100 < (((doL c ls os).length + (doO c ls os).length : Nat) : Int) := by omega
  simp only [tyr, moved, hc, gE]
  refine ⟨(by (try simp (disch := first | assumption | omega) only [fine, gF]); repeat' (first | rfl | exact (Bool.or_eq_true _ _).mpr (.inr rfl) | refine (Bool.and_eq_true _ _).mpr ⟨?_, ?_⟩)), ?_⟩
  obtain ⟨vl, vo, xl, xo, sv, mp, ml, mo, mn⟩ := hs
  obtain ⟨er, hrow⟩ := sv.row
  have hqp : q ≠ p := fun e => by have := m3 q tp; have := sv.pn; omega
  have hrow1 : h1 p = some (.row (.l [vl, vo]) er) := (o1 p sv.pn).trans hrow
  have kl := tv.l.rds.kind
  have ko := tv.o.rds.kind
  rw [opv_rd (Row.one (off := 0) tv.row rfl ti53 rfl)]
  simp only [tyr, moved, gE]
  rw [opv_wr (Row.write hrow1 ti53 (by rw [kl.1]; rfl) (by show 0 + 1 ≤ 2; omega) (by rw [kl.1]; simp [kl.2.1]))]
  rw [kl.1, show splice [vl, vo] 0 [wl] = [wl, vo] from rfl]
  simp only [tyr, fgr, moved, gE]
  have hq2 : Row (upd h1 p (some (.row (.l [wl, vo]) er))) q [wl, wo] := ⟨ec, by rw [upd_ne _ _ hqp]; exact hrc⟩
  rw [opv_rd (Row.one (off := 1) hq2 rfl ti53 rfl)]
  simp only [tyr, moved, gE]
  rw [opv_wr (Row.write (upd_same _ _ _) ti53 (by rw [ko.1]; rfl) (by show 1 + 1 ≤ 2; omega) (by rw [ko.1]; simp [ko.2.1]))]
  rw [ko.1, show splice [wl, vo] 1 [wo] = [wl, wo] from rfl]
  simp only [fgr, gE]
  have hpD : ¬ D1 p := fun w => (d3 p w).elim sv.pd (fun w => by have := sv.pn; omega)
  have hpl : ∀ j, ownId wl = some j → j ≠ p := fun j hj e => by have := m3 j (tl j hj); have := sv.pn; omega
  have hpo : ∀ j, ownId wo = some j → j ≠ p := fun j hj e => by have := m3 j (to_ j hj); have := sv.pn; omega
  have hpd : ∀ j, D1 j → j ≠ p := fun j hj e => hpD (by rw [← e]; exact hj)
  have hne : ∀ j, j ≠ p → upd (upd h1 p (some (.row (.l [wl, vo]) er))) p (some (.row (.l [wl, wo]) er)) j = h1 j := fun j hj => by rw [upd_ne _ _ hj, upd_ne _ _ hj]
  have hpn := sv.pn
  refine ⟨by rw [he], D1, fun j => j = p ∨ ownId wl = some j ∨ ownId wo = some j, ?_, ⟨hn1, (f1.upd (by omega)).upd (by omega), d2, d3, fun j hj => ?_, fun j hj hm' => ?_⟩⟩
  · unfold allL allO
    rw [if_pos he, if_pos he]
    refine ⟨wl, wo, zl, zo, ⟨⟨er, upd_same _ _ _⟩, tv.l.keep fun j hj => hne j (hpl j hj), tv.le.mono (fun _ q => q) (fun j hj => hne j (hpd j hj)), tv.o.keep fun j hj => hne j (hpo j hj), tv.oe.mono (fun _ q => q) (fun j hj => hne j (hpd j hj)), by omega, tv.dn, hpD, fun j hj => ⟨hpl j hj, (tv.lp j hj).2⟩, fun j hj => ⟨hpo j hj, (tv.op j hj).2⟩⟩, .inl rfl, fun j hj => .inr (.inl hj), fun j hj => .inr (.inr hj), fun j hj => ?_⟩
    rcases hj with w | w | w
    · subst w; exact ⟨by omega, hpD⟩
    · exact ⟨(tn j (tl j w)).1, (tn j (tl j w)).2⟩
    · exact ⟨(tn j (to_ j w)).1, (tn j (to_ j w)).2⟩
  · rcases hj with w | w | w
    · rw [w]; exact .inl mp
    · exact .inr (m3 j (tl j w))
    · exact .inr (m3 j (to_ j w))
  · rw [hne j (fun w => hm' (by rw [w]; exact mp))]; exact o1 j hj
structure OpC where
  kind : Int
  code : Int
  b : List UInt8
  at_ : Int
def ocells (o : OpC) (sv : AVal) : List AVal := [.int .i64 o.kind, .int .u8 o.code, sv, .int .i64 o.at_]
structure ArgC (a : AVal) (os : List OpC) (xs : List AVal) : Prop where
  rd : ∀ h, Rds h 4 a os.length xs
  id : ownId a = none
  len : os.length ≤ maxLen
  at_ : ∀ j (hj : j < os.length), ∃ sv, (xs.drop (j * 4)).take 4 = ocells os[j] sv ∧ ArgBytes sv os[j].b
theorem cut_len (f : Nat → AVal) (o n : Nat) : (cut f o n).length = n := by simp [cut]
theorem cut_get (f : Nat → AVal) (o n : Nat) {j : Nat} (h : j < (cut f o n).length) : (cut f o n)[j] = f (o + j) := by simp [cut]
theorem cut_sub (f : Nat → AVal) (o n a b : Nat) (h : a + b ≤ n) : ((cut f o n).drop a).take b = cut f (o + a) b := by
  refine List.ext_getElem (by simp [cut]; omega) fun i h1 h2 => ?_
  rw [List.getElem_take, List.getElem_drop, cut_get, cut_get, Nat.add_assoc]
theorem arg_calls {a : AVal} (ha : Arg Try.prog 70 [a]) : ∃ os xs, ArgC a os xs := by
  have k76 : Try.prog.cellsOf 76 = 4 := by kernel_rfl
  have k3 : Try.prog.cellsOf 3 = 1 := by kernel_rfl
  have k22 : Try.prog.cellsOf 22 = 1 := by kernel_rfl
  have k5 : Try.prog.cellsOf 5 = 1 := by kernel_rfl
  rcases ha.slice_inv Try.underlying70 (by rw [k76]; omega) with h | ⟨f, len, h, hl, hx⟩
  · injection h with h; subst h
    exact ⟨[], [], fun h => .nils, rfl, Nat.zero_le _, fun j hj => by simp at hj⟩
  · injection h with h
    subst h
    rw [k76] at hx ⊢
    have each : ∀ i, ∃ p : OpC × AVal, i < len → cut f (i * 4) 4 = ocells p.1 p.2 ∧ ArgBytes p.2 p.1.b := fun i => by
      by_cases hi : i < len
      · obtain ⟨hl, he⟩ := (hx i hi).struct_inv Try.underlying76
        have q0 : Arg Try.prog 3 (((cut f (i * 4) 4).drop 0).take (Try.prog.cellsOf 3)) := he 0 _ rfl
        have q1 : Arg Try.prog 5 (((cut f (i * 4) 4).drop 1).take (Try.prog.cellsOf 5)) := he 1 _ rfl
        have q2 : Arg Try.prog 22 (((cut f (i * 4) 4).drop 2).take (Try.prog.cellsOf 22)) := he 2 _ rfl
        have q3 : Arg Try.prog 3 (((cut f (i * 4) 4).drop 3).take (Try.prog.cellsOf 3)) := he 3 _ rfl
        rw [k3] at q0 q3
        rw [k5] at q1
        rw [k22] at q2
        obtain ⟨kind, e0, _⟩ := q0.int_inv Try.underlying3
        obtain ⟨code, e1, _⟩ := q1.int_inv Try.underlying5
        obtain ⟨at_, e3, _⟩ := q3.int_inv Try.underlying3
        have e2 : ((cut f (i * 4) 4).drop 2).take 1 = [f (i * 4 + 2)] := by rw [cut_sub _ _ _ _ _ (by omega)]; rfl
        rw [e2] at q2
        obtain ⟨l, h1, _⟩ := arg_bytes Try.underlying22 Try.underlying5 k5 q2
        refine ⟨(⟨kind, code, l, at_⟩, f (i * 4 + 2)), fun _ => ⟨?_, h1⟩⟩
        rw [cut_sub _ _ _ _ _ (by omega)] at e0 e1 e3
        have d0 : f (i * 4) = .int .i64 kind := by injection e0
        have d1 : f (i * 4 + 1) = .int .u8 code := by injection e1
        have d3 : f (i * 4 + 3) = .int .i64 at_ := by injection e3
        show [f (i * 4), f (i * 4 + 1), f (i * 4 + 2), f (i * 4 + 3)] = _
        rw [d0, d1, d3]; rfl
      · exact ⟨(⟨0, 0, [], 0⟩, .nils), fun q => absurd q hi⟩
    obtain ⟨b, hb⟩ := Classical.axiomOfChoice each
    refine ⟨(List.range len).map fun i => (b i).1, cut f 0 (len * 4), fun h => ?_, rfl, by simpa using hl, fun j hj => ?_⟩
    · have := Rds.isl (h := h) (sz := 4) f 0 len (cut f 0 (len * 4)) (by rw [cut_len]) (fun j hj => by rw [cut_get])
      simpa using this
    · simp only [List.length_map, List.length_range] at hj
      simp only [List.getElem_map, List.getElem_range]
      rw [cut_sub _ _ _ _ _ (by omega), Nat.zero_add]
      exact ⟨(b j).2, hb j hj⟩
theorem u70 : und env 70 = M.pure (.slice 76) := rfl
theorem z76 : sizeOf env 76 = M.pure 4 := rfl
theorem piece {xs ys : List AVal} {a b i : Nat} (h : (xs.drop a).take b = ys) (hi : i < b) : xs[a + i]? = ys[i]? := by
  rw [← h, List.getElem?_take, if_pos hi, List.getElem?_drop]
def overC (o : OpC) : Bool := decide (600 < o.b.length)
def greatC (ls : List (List UInt8)) (os : List OpC) : Bool := ls.any overB || (os.any overC || (decide (150 < ls.length) || decide (200 < os.length)))
theorem loop36b (Q : Post0) (ks : List Kf) (v a : AVal) (os : List OpC) (xs : List AVal) (h : Hp) (n : Nat) (ha : ArgC a os xs)
    (hq : ∀ (x5 x6 x8 x9 x10 x17 x22 x30 : AVal), os.any overC = false → Kont env 36 none Q ks (.exit 2) (v :: a :: AVal.junk :: AVal.junk :: .bool false :: x5 :: x6 :: AVal.junk :: x8 :: x9 :: x10 :: AVal.junk :: AVal.junk :: AVal.junk :: AVal.junk :: AVal.junk :: AVal.junk :: x17 :: AVal.junk :: AVal.junk :: .int .i64 (os.length : Nat) :: .int .i64 (os.length : Nat) :: x22 :: AVal.junk :: AVal.junk :: AVal.junk :: AVal.junk :: AVal.junk :: AVal.junk :: AVal.junk :: x30 :: AVal.junk :: AVal.junk :: AVal.junk :: AVal.junk :: AVal.junk :: AVal.junk :: AVal.junk :: AVal.junk :: AVal.junk :: []) h n)
    (hr : ∀ (x5 x6 x8 x9 x10 x17 x22 x30 : AVal) (z : AVal), os.any overC = true → Kont env 36 none Q ks .ret (v :: a :: AVal.junk :: AVal.junk :: .bool true :: x5 :: x6 :: AVal.junk :: x8 :: x9 :: x10 :: AVal.junk :: AVal.junk :: AVal.junk :: AVal.junk :: AVal.junk :: AVal.junk :: x17 :: AVal.junk :: AVal.junk :: .int .i64 (os.length : Nat) :: z :: x22 :: AVal.junk :: AVal.junk :: AVal.junk :: AVal.junk :: AVal.junk :: AVal.junk :: AVal.junk :: x30 :: AVal.junk :: AVal.junk :: AVal.junk :: AVal.junk :: AVal.junk :: AVal.junk :: AVal.junk :: AVal.junk :: AVal.junk :: []) h n) :
    ∀ (m i : Nat) (x5 x6 x8 x9 x10 x17 x22 x30 : AVal), i + m = os.length → (os.take i).any overC = false →
    Run env 36 none Q (.loop lp36_1) ks (v :: a :: AVal.junk :: AVal.junk :: .bool false :: x5 :: x6 :: AVal.junk :: x8 :: x9 :: x10 :: AVal.junk :: AVal.junk :: AVal.junk :: AVal.junk :: AVal.junk :: AVal.junk :: x17 :: AVal.junk :: AVal.junk :: .int .i64 (os.length : Nat) :: .int .i64 (i : Nat) :: x22 :: AVal.junk :: AVal.junk :: AVal.junk :: AVal.junk :: AVal.junk :: AVal.junk :: AVal.junk :: x30 :: AVal.junk :: AVal.junk :: AVal.junk :: AVal.junk :: AVal.junk :: AVal.junk :: AVal.junk :: AVal.junk :: AVal.junk :: []) h n := by
  have hlen := ha.len
  have hm : maxLen = 9223372036854775807 := rfl
  intro m
  induction m with
  | zero =>
    intro i x5 x6 x8 x9 x10 x17 x22 x30 hi hs
    have : i = os.length := by omega
    subst this
    have hc : ¬ ((os.length : Nat) : Int) < ((os.length : Nat) : Int) := by omega
    rw [run_loop]
    simp only [lp36_1, loopsOf, Try.f36, Option.getD_some, fgr, bor, List.getD_cons_zero, List.getD_cons_succ, hc, gE]
    rw [List.take_length] at hs
    exact hq _ _ _ _ _ _ _ _ hs
  | succ m ih =>
    intro i x5 x6 x8 x9 x10 x17 x22 x30 hi hs
    have hil : i < os.length := by omega
    have hc : ((i : Nat) : Int) < ((os.length : Nat) : Int) := by omega
    have hwr : IntKind.i64.wrap (((i : Nat) : Int) + 1) = ((i + 1 : Nat) : Int) := by rw [w64 (by omega) (by omega)]; omega
    obtain ⟨sv, e, hv⟩ := ha.at_ i hil
    have hr0 := ha.rd h
    have m1 := moved_adr hr0 (by omega) (i * 4) 2
    have hx : xs[i * 4 + 2]? = some sv := by rw [piece e (by omega)]; rfl
    rw [run_loop]
    simp only [lp36_1, loopsOf, Try.f36, Option.getD_some, fgr, bor, List.getD_cons_zero, List.getD_cons_succ, hc, gE]
    rw [opv_rd (hr0.idx (j := i) u70 z76 rfl hil)]
    simp only [tyr, m1, gE]
    rw [opv_rd (hr0.load (k := i * 4 + 2) ti22 rfl hx)]
    by_cases hov : 600 < os[i].b.length
    · have hc2 : 600 < ((os[i].b.length : Nat) : Int) := by omega
      simp only [fgr, builtin, bor, gt_iff_lt, (hv.bytes h).bLen t22, hc2, gE]
      exact hr _ _ _ _ _ _ _ _ _ (List.any_eq_true.2 ⟨_, List.getElem_mem hil, decide_eq_true hov⟩)
    · have hc2 : ¬ 600 < ((os[i].b.length : Nat) : Int) := by omega
      simp only [fgr, builtin, bor, wrapI, gt_iff_lt, (hv.bytes h).bLen t22, hc2, hwr, gE]
      refine ih (i + 1) _ _ _ _ _ _ _ _ (by omega) ?_
      rw [List.take_add_one, List.getElem?_eq_getElem hil, Option.toList_some, List.any_append, hs]
      simp [overC, hov]
theorem f36r (v a : AVal) (xs ys : List AVal) (ls : List (List UInt8)) (os : List OpC) (D : Nat → Prop) (h : Hp) (n : Nat) (hlen : ls.length ≤ 9223372036854775807) (hv : Rds h 1 v ls.length xs) (hel : Els h D xs ls) (ha : ArgC a os ys) :
    Wp (callI env (evalW env) 36 [v, a]) h n fun v' h' n' => v' = .bool (greatC ls os) ∧ h' = h ∧ n' = n := by
  refine wp_callI ff36 fi36 ?_
  have hr0 := ha.rd h
  simp only [fu36, Try.f36, Option.getD_some, List.replicate, fgr, builtin, Nat.reduceAdd, Nat.reduceSub, hv.bLen u53, gE]
  refine loop36 _ _ v a xs ls D h n hlen hv hel ?_ ?_ ls.length 0 _ _ _ _ _ _ _ _ (by omega) rfl
  · intro x5 x6 x10 x17 x20 x21 x22 x30 hn1
    simp only [fgr, builtin, hr0.bLen u70, gE]
    refine loop36b _ _ v a os ys h n ha ?_ ?_ os.length 0 _ _ _ _ _ _ _ _ (by omega) rfl
    · intro x5 x6 x8 x9 x10 x17 x22 x30 hn2
      by_cases h150 : 150 < ls.length
      · have hc : 150 < ((ls.length : Nat) : Int) := by omega
        simp only [fgr, builtin, bor, doPick, gt_iff_lt, hv.bLen u53, hc, greatC, hn1, hn2, h150, gE]
      · have hc : ¬ 150 < ((ls.length : Nat) : Int) := by omega
        by_cases h200 : 200 < os.length
        · have hc2 : 200 < ((os.length : Nat) : Int) := by omega
          simp only [fgr, builtin, bor, doPick, gt_iff_lt, hv.bLen u53, hc, hc2, hr0.bLen u70, greatC, hn1, hn2, h150, h200, gE]
        · have hc2 : ¬ 200 < ((os.length : Nat) : Int) := by omega
          simp only [fgr, builtin, bor, doPick, gt_iff_lt, hv.bLen u53, hc, hc2, hr0.bLen u70, greatC, hn1, hn2, h150, h200, gE]
    · intro x5 x6 x8 x9 x10 x17 x22 x30 z hn2
      simp only [core1, nth, Bool.or_true, Bool.true_or, and_self, greatC, hn1, hn2]
  · intro x5 x6 x10 x17 x20 x21 x22 x30 z hn1
    simp only [core1, nth, Bool.true_or, and_self, greatC, hn1]
theorem great_false {ls : List (List UInt8)} {os : List OpC} (h : greatC ls os = false) : (∀ l ∈ ls, l.length ≤ 600) ∧ ls.length ≤ 150 ∧ os.length ≤ 200 ∧ ∀ o ∈ os, o.b.length ≤ 600 := by
  unfold greatC at h
  simp only [Bool.or_eq_false_iff, decide_eq_false_iff_not] at h
  refine ⟨over_false h.1, by omega, by omega, fun o ho => ?_⟩
  by_cases q : 600 < o.b.length
  · rw [List.any_eq_true.2 ⟨o, ho, decide_eq_true q⟩] at h; cases h.2.1
  · omega
def Bx (h : Hp) (v : AVal) (cnt : Nat) : Prop := ∃ xs, Lst h 5 1 v cnt xs ∧ ∀ (j : Nat) x, xs[j]? = some x → ∃ z, x = .int .u8 z
theorem Bx.of {h : Hp} {v : AVal} {l : List UInt8} (hl : Lst h 5 1 v l.length (l.map u8)) : Bx h v l.length := ⟨_, hl, fun j x hx => by
  rw [List.getElem?_map] at hx
  cases hj : l[j]? with
  | none => rw [hj] at hx; cases hx
  | some b => rw [hj] at hx; injection hx with hx; exact ⟨_, hx.symm⟩⟩
theorem Bx.keep {h h' : Hp} {v : AVal} {cnt : Nat} (hb : Bx h v cnt) (hk : ∀ j, ownId v = some j → h' j = h j) : Bx h' v cnt := by
  obtain ⟨xs, l, b⟩ := hb
  exact ⟨xs, l.keep hk, b⟩
theorem Bx.at {h : Hp} {v : AVal} {cnt i : Nat} (hb : Bx h v cnt) (hi : i < cnt) : ∃ xs z, Lst h 5 1 v cnt xs ∧ xs[i]? = some (.int .u8 z) := by
  obtain ⟨xs, l, b⟩ := hb
  have hx := l.rds.length
  have : i < xs.length := by omega
  obtain ⟨z, hz⟩ := b i _ (List.getElem?_eq_getElem this)
  exact ⟨xs, z, l, by rw [List.getElem?_eq_getElem this, hz]⟩
theorem splice_set {xs : List AVal} {a : Nat} {y : AVal} (h : a < xs.length) : splice xs a [y] = xs.set a y := by
  refine List.ext_getElem? fun j => ?_
  rw [spq_get (by simp; omega), List.getElem?_set]
  by_cases q : a = j
  · subst q; simp [h]
  · rw [if_neg (by simp only [List.length_singleton]; omega), if_neg q]
theorem bx_set {h : Hp} {id i : Nat} {cells : List AVal} (hh : h id = some (.row (.l cells) 5)) (hi : i < cells.length) (z : Int) {w : AVal} {c : Nat} (hb : Bx h w c) : Bx (upd h id (some (.row (.l (cells.set i (.int .u8 z))) 5))) w c := by
  by_cases hw : ownId w = some id
  case neg => exact hb.keep fun j hj => upd_ne _ _ (fun e => hw (by rw [← e]; exact hj))
  obtain ⟨xs, hl, hb⟩ := hb
  cases hl with
  | nil => cases hw
  | sl id' c cap cells' xs hh' h1 h2 h3 =>
    have e : id' = id := by injection hw
    subst e
    rw [hh] at hh'
    injection hh' with hh'; injection hh' with hh'; injection hh' with hh'
    subst hh'; subst h3
    rw [Nat.mul_one] at *
    refine ⟨(cells.set i (.int .u8 z)).take c, .sl id' c cap _ _ (upd_same _ _ _) (by simpa using h1) (by simpa using h2) (by rw [Nat.mul_one]), fun j x hx => ?_⟩
    rw [List.getElem?_take] at hx
    split at hx
    · rename_i hj
      by_cases hij : i = j
      · subst hij
        rw [List.getElem?_set_self hi] at hx
        injection hx with hx
        exact ⟨z, hx.symm⟩
      · rw [List.getElem?_set_ne hij] at hx
        exact hb j x (by rw [List.getElem?_take, if_pos hj]; exact hx)
    · cases hx
theorem Bx.put {h : Hp} {n : Nat} {v : AVal} {cnt i : Nat} (hb : Bx h v cnt) (hi : i < cnt) (z : Int) : ∃ h2 rs ws, Wr (doStore env 5 (addrOf i v) (.int .u8 z)) h n rs ws undef h2 ∧ (∀ w c, Bx h w c → Bx h2 w c) ∧ ∀ j, ownId v ≠ some j → h2 j = h j := by
  obtain ⟨xs, hl, hb⟩ := hb
  obtain ⟨id, cap, cells, rfl, hh, h1, h2, rfl⟩ := hl.inv (by omega)
  rw [Nat.mul_one] at *
  refine ⟨_, _, _, Row.write (off := 0 + i) hh ti5 rfl (by show 0 + i + 1 ≤ cells.length; omega) rfl, ?_, fun j hj => upd_ne _ _ (fun e => hj (by rw [e]; rfl))⟩
  show ∀ w c, Bx h w c → Bx (upd h id (some (.row (.l (splice cells (0 + i) [.int .u8 z])) 5))) w c
  rw [Nat.zero_add, splice_set (by omega)]
  exact fun w c hb => bx_set hh (by omega) z hb
def Pr (h : Hp) (n p q : Nat) (ls os : List (List UInt8)) : Prop := ∃ D M E N, Stk h n D M p ls os ∧ Stk h n E N q ls os ∧ (∀ j, M j → ¬ E j ∧ ¬ N j) ∧ ∀ j, N j → ¬ D j
theorem Pr.beside {h h' : Hp} {n n' p q : Nat} {ls os : List (List UInt8)} (s : Pr h n p q ls os) (hn : n ≤ n') (ho : Old h h' n) : Pr h' n' p q ls os := by
  obtain ⟨D, M, E, N, a, b, c, d⟩ := s
  exact ⟨D, M, E, N, a.old hn ho, b.old hn ho, c, d⟩
theorem pr_s {h h' : Hp} {n n' q : Nat} {D M E N D' M' : Nat → Prop} {ms ns : List (List UInt8)} (t : Stk h n E N q ms ns) (d1 : ∀ j, M j → ¬ E j ∧ ¬ N j) (d2 : ∀ j, N j → ¬ D j) (c : Chg h n D M h' n' D' M') :
    Stk h' n' E N q ms ns ∧ (∀ j, M' j → ¬ E j ∧ ¬ N j) ∧ (∀ j, N j → ¬ D' j) :=
  ⟨t.beside c.nx fun j hj hw => c.old j hj (fun w => hw.elim (d1 j w).1 (d1 j w).2),
   fun j hj => (c.m' j hj).elim (d1 j) (fun w => ⟨fun e => by have := (t.d j e).1; omega, fun e => by have := (t.m j e).1; omega⟩),
   fun j hj w => (c.d' j w).elim (d2 j hj) (fun w => by have := (t.m j hj).1; omega)⟩
theorem pr_t {h h' : Hp} {n n' p : Nat} {D M E N E' N' : Nat → Prop} {ls os : List (List UInt8)} (s : Stk h n D M p ls os) (d1 : ∀ j, M j → ¬ E j ∧ ¬ N j) (d2 : ∀ j, N j → ¬ D j) (c : Chg h n E N h' n' E' N') :
    Stk h' n' D M p ls os ∧ (∀ j, M j → ¬ E' j ∧ ¬ N' j) ∧ (∀ j, N' j → ¬ D j) :=
  ⟨s.beside c.nx fun j hj hw => c.old j hj (fun w => hw.elim (d2 j w) (fun m => (d1 j m).2 w)),
   fun j hj => ⟨fun w => (c.d' j w).elim (d1 j hj).1 (fun w => by have := (s.m j hj).1; omega), fun w => (c.m' j w).elim (d1 j hj).2 (fun w => by have := (s.m j hj).1; omega)⟩,
   fun j hj w => (c.m' j hj).elim (fun r => d2 j r w) (fun r => by have := (s.d j w).1; omega)⟩
theorem Stk.in {h : Hp} {n p : Nat} {D M : Nat → Prop} {ls os : List (List UInt8)} (s : Stk h n D M p ls os) {S : Nat → Bool} (hS : ∀ j, D j ∨ M j → S j = true) : Stk (only S h) n D M p ls os :=
  s.beside (Nat.le_refl _) fun j _ hj => only_in (hS j hj)
theorem in_chg {h hr h' : Hp} {n n' p : Nat} {D M D' M' : Nat → Prop} {ls os : List (List UInt8)} {S : Nat → Bool} (hS : ∀ j, D j ∨ M j → S j = true) (s1 : Stk hr n' D' M' p ls os) (c1 : Chg (only S h) n D M hr n' D' M')
    (a : ∀ k, S k = true ∨ n ≤ k → h' k = hr k) (b : ∀ k, k < n → S k = false → h' k = h k) (f : Free h' n') : Stk h' n' D' M' p ls os ∧ Chg h n D M h' n' D' M' := by
  refine ⟨s1.beside (Nat.le_refl _) fun j _ hj => a j ?_, ⟨c1.nx, f, c1.d, c1.d', c1.m', fun j hj hm => ?_⟩⟩
  · rcases hj with w | w
    · exact (c1.d' j w).imp (fun w => hS j (.inl w)) id
    · exact (c1.m' j w).imp (fun w => hS j (.inr w)) id
  · cases hs : S j with
    | true => rw [a j (.inl hs), c1.old j hj hm, only_in hs]
    | false => exact b j hj hs
set_option maxHeartbeats 2000000 in
theorem f43r (p : Nat) (k : Int) (ls os : List (List UInt8)) (D M : Nat → Prop) (h : Hp) (n : Nat) (hs : Stk h n D M p ls os) (hl : ls.length ≤ 100000) (hel : ∀ l ∈ ls, l.length ≤ 1000000) (hf : Free h n) :
    Wp (callI env (evalW env) 43 [.ptr p 0, .int .i64 k]) h n fun v' h' n' => ∃ s, v' = .tup [s, .int .i64 (topE ls k)] ∧ Lst h' 5 1 s (topL ls k).length ((topL ls k).map u8) ∧ (∀ j, ownId s = some j → n ≤ j ∧ j < n') ∧ Old h h' n := by
  obtain ⟨vl, vo, xl, xo, sv, mp, ml, mo, mn⟩ := hs
  refine wp_callI ff43 fi43 ?_
  by_cases c0 : k < 0
  · have ce : topE ls k = 120 := if_neg (by omega)
    have cl : topL ls k = [] := if_neg (by omega)
    simp only [fu43, Try.f43, Option.getD_some, List.replicate, tyr, fgr, bor, binOther, aggK, doPick, equalTop, equal, nilFn, nilPtr, boolOf, Nat.reduceAdd, Nat.reduceSub, c0, gE]
    exact ⟨_, by rw [ce], by rw [cl]; exact .nil, fun j hj => (by cases hj), Old.refl _ _⟩
  simp only [fu43, Try.f43, Option.getD_some, List.replicate, tyr, fgr, hkr, bor, binOther, aggK, moved, equalTop, equal, nilFn, nilPtr, boolOf, Nat.reduceAdd, Nat.reduceSub, c0, gE]
  refine opv_same (f66 p 0 vl [vl, vo] ls.length xl h n sv.row rfl sv.l.rds) ?_
  by_cases c1 : ((ls.length : Nat) : Int) ≤ k
  · have ce : topE ls k = 120 := if_neg (by omega)
    have cl : topL ls k = [] := if_neg (by omega)
    simp only [fgr, bor, doPick, ge_iff_le, c1, gE]
    exact ⟨_, by rw [ce], by rw [cl]; exact .nil, fun j hj => (by cases hj), Old.refl _ _⟩
  obtain ⟨m, rfl⟩ : ∃ m : Nat, k = (m : Nat) := ⟨k.toNat, by omega⟩
  have ce : topE ls (m : Nat) = 0 := if_pos (by omega)
  have cl : topL ls (m : Nat) = ls.getD (ls.length - 1 - m) [] := by unfold topL; rw [if_pos (by omega), Int.toNat_natCast]
  obtain ⟨x, hx, hxe⟩ := elx sv.le (k := m) (by omega)
  simp only [tyr, fgr, hkr, bor, doPick, moved, ge_iff_le, c1, gE]
  refine opv_callf hf (f71 p 0 m ls.length vl x [vl, vo] xl h n sv.row rfl sv.l.rds (by omega) hl hx hxe.1.kind sv.pn (fun j hj => (mn j (ml j hj)).1) hf) fun v1 h1 n1 hn1 f1 ⟨e1, o1⟩ => ?_
  subst e1
  have hb : Bytes h1 v1 (ls.getD (ls.length - 1 - m) []) := hxe.1.keep fun j hj => o1 j (sv.dn j (hxe.2 j hj))
  have hml : (ls.getD (ls.length - 1 - m) []).length ≤ 1000000 := by
    rw [List.getD_eq_getElem?_getD, List.getElem?_eq_getElem (by omega)]
    exact hel _ (List.getElem_mem _)
  simp only [hkr, gE]
  refine opv_callf f1 (f64r v1 _ h1 n1 hb hml f1) fun v2 h2 n2 hn2 f2 ⟨b2, i2, o2⟩ => ?_
  simp only [fgr, gE]
  exact ⟨v2, by rw [ce], by rw [cl]; exact b2, fun j hj => ⟨by have := i2 j hj; omega, (i2 j hj).2⟩, fun j hj => (o2 j (by omega)).trans (o1 j hj)⟩
theorem bs5 : buildSlice env 22 0 [] = (newRow env 5 []).bind fun id => M.pure (.sl id 0 0 (some 0) 1) := rfl
set_option maxHeartbeats 2000000 in
theorem loop48_0 (Q : Post0) (ks : List Kf) (v : AVal) (cnt : Nat) (h0 : Hp) (n : Nat) (hcnt : cnt ≤ 1000000)
    (hq : ∀ (h : Hp) (x0 x1 x2 x5 x6 x9 x10 x11 x12 x13 x14 x15 x16 x17 x18 x19 x20 x21 x22 x23 x25 x26 x37 x62 x72 x94 x121 x122 x123 x133 : AVal), (∀ j, ownId v ≠ some j → h j = h0 j) → Kont env 48 none Q ks (.exit 1) (x0 :: x1 :: x2 :: AVal.junk :: AVal.junk :: x5 :: x6 :: v :: .bool true :: x9 :: x10 :: x11 :: x12 :: x13 :: x14 :: x15 :: x16 :: x17 :: x18 :: x19 :: x20 :: x21 :: x22 :: x23 :: AVal.junk :: x25 :: x26 :: AVal.junk :: AVal.junk :: AVal.junk :: AVal.junk :: AVal.junk :: AVal.junk :: AVal.junk :: AVal.junk :: AVal.junk :: AVal.junk :: x37 :: AVal.junk :: AVal.junk :: AVal.junk :: AVal.junk :: AVal.junk :: AVal.junk :: AVal.junk :: AVal.junk :: AVal.junk :: AVal.junk :: AVal.junk :: AVal.junk :: AVal.junk :: AVal.junk :: AVal.junk :: AVal.junk :: AVal.junk :: AVal.junk :: AVal.junk :: AVal.junk :: AVal.junk :: AVal.junk :: .int .i64 (cnt : Nat) :: .int .i64 (cnt : Nat) :: x62 :: AVal.junk :: AVal.junk :: AVal.junk :: AVal.junk :: AVal.junk :: AVal.junk :: AVal.junk :: AVal.junk :: AVal.junk :: x72 :: AVal.junk :: AVal.junk :: AVal.junk :: AVal.junk :: AVal.junk :: AVal.junk :: AVal.junk :: AVal.junk :: AVal.junk :: AVal.junk :: AVal.junk :: AVal.junk :: AVal.junk :: AVal.junk :: AVal.junk :: AVal.junk :: AVal.junk :: AVal.junk :: AVal.junk :: AVal.junk :: AVal.junk :: x94 :: AVal.junk :: AVal.junk :: AVal.junk :: AVal.junk :: AVal.junk :: AVal.junk :: AVal.junk :: AVal.junk :: AVal.junk :: AVal.junk :: AVal.junk :: AVal.junk :: AVal.junk :: AVal.junk :: AVal.junk :: AVal.junk :: AVal.junk :: AVal.junk :: AVal.junk :: AVal.junk :: AVal.junk :: AVal.junk :: AVal.junk :: AVal.junk :: AVal.junk :: AVal.junk :: x121 :: x122 :: x123 :: AVal.junk :: AVal.junk :: AVal.junk :: AVal.junk :: AVal.junk :: AVal.junk :: AVal.junk :: AVal.junk :: AVal.junk :: x133 :: AVal.junk :: AVal.junk :: AVal.junk :: AVal.junk :: AVal.junk :: AVal.junk :: AVal.junk :: AVal.junk :: AVal.junk :: AVal.junk :: AVal.junk :: AVal.junk :: AVal.junk :: AVal.junk :: AVal.junk :: AVal.junk :: AVal.junk :: AVal.junk :: AVal.junk :: []) h n) :
    ∀ (m i : Nat) (h : Hp) (x0 x1 x2 x5 x6 x9 x10 x11 x12 x13 x14 x15 x16 x17 x18 x19 x20 x21 x22 x23 x25 x26 x37 x62 x72 x94 x121 x122 x123 x133 : AVal), i + m = cnt → Bx h v cnt → (∀ j, ownId v ≠ some j → h j = h0 j) →
    Run env 48 none Q (.loop lp48_0) ks (x0 :: x1 :: x2 :: AVal.junk :: AVal.junk :: x5 :: x6 :: v :: .bool true :: x9 :: x10 :: x11 :: x12 :: x13 :: x14 :: x15 :: x16 :: x17 :: x18 :: x19 :: x20 :: x21 :: x22 :: x23 :: AVal.junk :: x25 :: x26 :: AVal.junk :: AVal.junk :: AVal.junk :: AVal.junk :: AVal.junk :: AVal.junk :: AVal.junk :: AVal.junk :: AVal.junk :: AVal.junk :: x37 :: AVal.junk :: AVal.junk :: AVal.junk :: AVal.junk :: AVal.junk :: AVal.junk :: AVal.junk :: AVal.junk :: AVal.junk :: AVal.junk :: AVal.junk :: AVal.junk :: AVal.junk :: AVal.junk :: AVal.junk :: AVal.junk :: AVal.junk :: AVal.junk :: AVal.junk :: AVal.junk :: AVal.junk :: AVal.junk :: .int .i64 (cnt : Nat) :: .int .i64 (i : Nat) :: x62 :: AVal.junk :: AVal.junk :: AVal.junk :: AVal.junk :: AVal.junk :: AVal.junk :: AVal.junk :: AVal.junk :: AVal.junk :: x72 :: AVal.junk :: AVal.junk :: AVal.junk :: AVal.junk :: AVal.junk :: AVal.junk :: AVal.junk :: AVal.junk :: AVal.junk :: AVal.junk :: AVal.junk :: AVal.junk :: AVal.junk :: AVal.junk :: AVal.junk :: AVal.junk :: AVal.junk :: AVal.junk :: AVal.junk :: AVal.junk :: AVal.junk :: x94 :: AVal.junk :: AVal.junk :: AVal.junk :: AVal.junk :: AVal.junk :: AVal.junk :: AVal.junk :: AVal.junk :: AVal.junk :: AVal.junk :: AVal.junk :: AVal.junk :: AVal.junk :: AVal.junk :: AVal.junk :: AVal.junk :: AVal.junk :: AVal.junk :: AVal.junk :: AVal.junk :: AVal.junk :: AVal.junk :: AVal.junk :: AVal.junk :: AVal.junk :: AVal.junk :: x121 :: x122 :: x123 :: AVal.junk :: AVal.junk :: AVal.junk :: AVal.junk :: AVal.junk :: AVal.junk :: AVal.junk :: AVal.junk :: AVal.junk :: x133 :: AVal.junk :: AVal.junk :: AVal.junk :: AVal.junk :: AVal.junk :: AVal.junk :: AVal.junk :: AVal.junk :: AVal.junk :: AVal.junk :: AVal.junk :: AVal.junk :: AVal.junk :: AVal.junk :: AVal.junk :: AVal.junk :: AVal.junk :: AVal.junk :: AVal.junk :: []) h n := by
  intro m
  induction m with
  | zero =>
    intro i h x0 x1 x2 x5 x6 x9 x10 x11 x12 x13 x14 x15 x16 x17 x18 x19 x20 x21 x22 x23 x25 x26 x37 x62 x72 x94 x121 x122 x123 x133 hi hb ho
    have : i = cnt := by omega
    subst this
    have hc : ¬ ((i : Nat) : Int) < ((i : Nat) : Int) := by omega
    rw [run_loop]
    simp only [lp48_0, loopsOf, Try.f48, Option.getD_some, fgr, bor, List.getD_cons_zero, hc, gE]
    exact hq h _ _ _ _ _ _ _ _ _ _ _ _ _ _ _ _ _ _ _ _ _ _ _ _ _ _ _ _ _ _ ho
  | succ m ih =>
    intro i h x0 x1 x2 x5 x6 x9 x10 x11 x12 x13 x14 x15 x16 x17 x18 x19 x20 x21 x22 x23 x25 x26 x37 x62 x72 x94 x121 x122 x123 x133 hi hb ho
    have hil : i < cnt := by omega
    have hc : ((i : Nat) : Int) < ((cnt : Nat) : Int) := by omega
    have hwr : IntKind.i64.wrap (((i : Nat) : Int) + 1) = ((i + 1 : Nat) : Int) := by rw [w64 (by omega) (by omega)]; omega
    obtain ⟨xs, z, hl, hx⟩ := hb.at hil
    obtain ⟨h2, rs, ws, hw, hb2, ho2⟩ := hb.put (n := n) hil (IntKind.u8.wrap (z + 1))
    rw [run_loop]
    simp only [lp48_0, loopsOf, Try.f48, Option.getD_some, fgr, bor, List.getD_cons_zero, hc, gE]
    rw [opv_rd (hl.rds.idx (j := i) t22 s5 rfl hil)]
    simp only [Nat.mul_one, gE]
    rw [opv_rd (hl.rds.load (k := i) ti5 rfl hx)]
    simp only [bor, wrapI, gE]
    rw [opv_rd (hl.rds.idx (j := i) t22 s5 rfl hil)]
    simp only [Nat.mul_one, gE]
    rw [opv_wr hw]
    simp only [fgr, bor, wrapI, hwr, gE]
    exact ih (i + 1) h2 _ _ _ _ _ _ _ _ _ _ _ _ _ _ _ _ _ _ _ _ _ _ _ _ _ _ _ _ _ _ (by omega) (hb2 v cnt hb) fun j hj => (ho2 j hj).trans (ho j hj)
set_option maxHeartbeats 2000000 in
theorem loop48_1 (Q : Post0) (ks : List Kf) (v : AVal) (cnt : Nat) (h0 : Hp) (n : Nat) (hcnt : cnt ≤ 1000000)
    (hq : ∀ (h : Hp) (x0 x1 x2 x5 x6 x7 x8 x9 x10 x11 x12 x13 x15 x16 x17 x19 x20 x21 x22 x23 x25 x26 x37 x60 x61 x62 x72 x94 x123 x133 : AVal), (∀ j, ownId v ≠ some j → h j = h0 j) → Kont env 48 none Q ks (.exit 3) (x0 :: x1 :: x2 :: AVal.junk :: AVal.junk :: x5 :: x6 :: x7 :: x8 :: x9 :: x10 :: x11 :: x12 :: x13 :: v :: x15 :: x16 :: x17 :: .bool true :: x19 :: x20 :: x21 :: x22 :: x23 :: AVal.junk :: x25 :: x26 :: AVal.junk :: AVal.junk :: AVal.junk :: AVal.junk :: AVal.junk :: AVal.junk :: AVal.junk :: AVal.junk :: AVal.junk :: AVal.junk :: x37 :: AVal.junk :: AVal.junk :: AVal.junk :: AVal.junk :: AVal.junk :: AVal.junk :: AVal.junk :: AVal.junk :: AVal.junk :: AVal.junk :: AVal.junk :: AVal.junk :: AVal.junk :: AVal.junk :: AVal.junk :: AVal.junk :: AVal.junk :: AVal.junk :: AVal.junk :: AVal.junk :: AVal.junk :: AVal.junk :: x60 :: x61 :: x62 :: AVal.junk :: AVal.junk :: AVal.junk :: AVal.junk :: AVal.junk :: AVal.junk :: AVal.junk :: AVal.junk :: AVal.junk :: x72 :: AVal.junk :: AVal.junk :: AVal.junk :: AVal.junk :: AVal.junk :: AVal.junk :: AVal.junk :: AVal.junk :: AVal.junk :: AVal.junk :: AVal.junk :: AVal.junk :: AVal.junk :: AVal.junk :: AVal.junk :: AVal.junk :: AVal.junk :: AVal.junk :: AVal.junk :: AVal.junk :: AVal.junk :: x94 :: AVal.junk :: AVal.junk :: AVal.junk :: AVal.junk :: AVal.junk :: AVal.junk :: AVal.junk :: AVal.junk :: AVal.junk :: AVal.junk :: AVal.junk :: AVal.junk :: AVal.junk :: AVal.junk :: AVal.junk :: AVal.junk :: AVal.junk :: AVal.junk :: AVal.junk :: AVal.junk :: AVal.junk :: AVal.junk :: AVal.junk :: AVal.junk :: AVal.junk :: AVal.junk :: .int .i64 (cnt : Nat) :: .int .i64 (cnt : Nat) :: x123 :: AVal.junk :: AVal.junk :: AVal.junk :: AVal.junk :: AVal.junk :: AVal.junk :: AVal.junk :: AVal.junk :: AVal.junk :: x133 :: AVal.junk :: AVal.junk :: AVal.junk :: AVal.junk :: AVal.junk :: AVal.junk :: AVal.junk :: AVal.junk :: AVal.junk :: AVal.junk :: AVal.junk :: AVal.junk :: AVal.junk :: AVal.junk :: AVal.junk :: AVal.junk :: AVal.junk :: AVal.junk :: AVal.junk :: []) h n) :
    ∀ (m i : Nat) (h : Hp) (x0 x1 x2 x5 x6 x7 x8 x9 x10 x11 x12 x13 x15 x16 x17 x19 x20 x21 x22 x23 x25 x26 x37 x60 x61 x62 x72 x94 x123 x133 : AVal), i + m = cnt → Bx h v cnt → (∀ j, ownId v ≠ some j → h j = h0 j) →
    Run env 48 none Q (.loop lp48_1) ks (x0 :: x1 :: x2 :: AVal.junk :: AVal.junk :: x5 :: x6 :: x7 :: x8 :: x9 :: x10 :: x11 :: x12 :: x13 :: v :: x15 :: x16 :: x17 :: .bool true :: x19 :: x20 :: x21 :: x22 :: x23 :: AVal.junk :: x25 :: x26 :: AVal.junk :: AVal.junk :: AVal.junk :: AVal.junk :: AVal.junk :: AVal.junk :: AVal.junk :: AVal.junk :: AVal.junk :: AVal.junk :: x37 :: AVal.junk :: AVal.junk :: AVal.junk :: AVal.junk :: AVal.junk :: AVal.junk :: AVal.junk :: AVal.junk :: AVal.junk :: AVal.junk :: AVal.junk :: AVal.junk :: AVal.junk :: AVal.junk :: AVal.junk :: AVal.junk :: AVal.junk :: AVal.junk :: AVal.junk :: AVal.junk :: AVal.junk :: AVal.junk :: x60 :: x61 :: x62 :: AVal.junk :: AVal.junk :: AVal.junk :: AVal.junk :: AVal.junk :: AVal.junk :: AVal.junk :: AVal.junk :: AVal.junk :: x72 :: AVal.junk :: AVal.junk :: AVal.junk :: AVal.junk :: AVal.junk :: AVal.junk :: AVal.junk :: AVal.junk :: AVal.junk :: AVal.junk :: AVal.junk :: AVal.junk :: AVal.junk :: AVal.junk :: AVal.junk :: AVal.junk :: AVal.junk :: AVal.junk :: AVal.junk :: AVal.junk :: AVal.junk :: x94 :: AVal.junk :: AVal.junk :: AVal.junk :: AVal.junk :: AVal.junk :: AVal.junk :: AVal.junk :: AVal.junk :: AVal.junk :: AVal.junk :: AVal.junk :: AVal.junk :: AVal.junk :: AVal.junk :: AVal.junk :: AVal.junk :: AVal.junk :: AVal.junk :: AVal.junk :: AVal.junk :: AVal.junk :: AVal.junk :: AVal.junk :: AVal.junk :: AVal.junk :: AVal.junk :: .int .i64 (cnt : Nat) :: .int .i64 (i : Nat) :: x123 :: AVal.junk :: AVal.junk :: AVal.junk :: AVal.junk :: AVal.junk :: AVal.junk :: AVal.junk :: AVal.junk :: AVal.junk :: x133 :: AVal.junk :: AVal.junk :: AVal.junk :: AVal.junk :: AVal.junk :: AVal.junk :: AVal.junk :: AVal.junk :: AVal.junk :: AVal.junk :: AVal.junk :: AVal.junk :: AVal.junk :: AVal.junk :: AVal.junk :: AVal.junk :: AVal.junk :: AVal.junk :: AVal.junk :: []) h n := by
  intro m
  induction m with
  | zero =>
    intro i h x0 x1 x2 x5 x6 x7 x8 x9 x10 x11 x12 x13 x15 x16 x17 x19 x20 x21 x22 x23 x25 x26 x37 x60 x61 x62 x72 x94 x123 x133 hi hb ho
    have : i = cnt := by omega
    subst this
    have hc : ¬ ((i : Nat) : Int) < ((i : Nat) : Int) := by omega
    rw [run_loop]
    simp only [lp48_1, loopsOf, Try.f48, Option.getD_some, fgr, bor, List.getD_cons_zero, List.getD_cons_succ, hc, gE]
    exact hq h _ _ _ _ _ _ _ _ _ _ _ _ _ _ _ _ _ _ _ _ _ _ _ _ _ _ _ _ _ _ ho
  | succ m ih =>
    intro i h x0 x1 x2 x5 x6 x7 x8 x9 x10 x11 x12 x13 x15 x16 x17 x19 x20 x21 x22 x23 x25 x26 x37 x60 x61 x62 x72 x94 x123 x133 hi hb ho
    have hil : i < cnt := by omega
    have hc : ((i : Nat) : Int) < ((cnt : Nat) : Int) := by omega
    have hwr : IntKind.i64.wrap (((i : Nat) : Int) + 1) = ((i + 1 : Nat) : Int) := by rw [w64 (by omega) (by omega)]; omega
    obtain ⟨xs, z, hl, hx⟩ := hb.at hil
    obtain ⟨h2, rs, ws, hw, hb2, ho2⟩ := hb.put (n := n) hil (IntKind.u8.wrap (z + 1))
    rw [run_loop]
    simp only [lp48_1, loopsOf, Try.f48, Option.getD_some, fgr, bor, List.getD_cons_zero, List.getD_cons_succ, hc, gE]
    rw [opv_rd (hl.rds.idx (j := i) t22 s5 rfl hil)]
    simp only [Nat.mul_one, gE]
    rw [opv_rd (hl.rds.load (k := i) ti5 rfl hx)]
    simp only [bor, wrapI, gE]
    rw [opv_rd (hl.rds.idx (j := i) t22 s5 rfl hil)]
    simp only [Nat.mul_one, gE]
    rw [opv_wr hw]
    simp only [fgr, bor, wrapI, hwr, gE]
    exact ih (i + 1) h2 _ _ _ _ _ _ _ _ _ _ _ _ _ _ _ _ _ _ _ _ _ _ _ _ _ _ _ _ _ _ (by omega) (hb2 v cnt hb) fun j hj => (ho2 j hj).trans (ho j hj)
theorem num_ok {ls os : List (List UInt8)} (h : Ok ls os) : Ok (numL ls) os := by
  unfold numL
  split
  · exact pop_ok h
  · exact h
theorem arg_id {v : AVal} {l : List UInt8} (ha : ArgBytes v l) : ownId v = none := by
  have := ha.below 0
  cases v with
  | sl id off len cap sz => exact absurd this (Nat.not_lt_zero _)
  | _ => rfl
def DoP (p q : Nat) (v' : AVal) (h' : Hp) (n' : Nat) : Prop := v' = .bool true ∧ ∃ ls os, Ok ls os ∧ Pr h' n' p q ls os
set_option maxHeartbeats 8000000 in
theorem f48 (p q : Nat) (o : OpC) (sv : AVal) (ls os : List (List UInt8)) (h : Hp) (n : Nat) (hP : Pr h n p q ls os) (ok : Ok ls os) (hsv : ArgBytes sv o.b) (hb : o.b.length ≤ 600) (hf : Free h n) :
    Wp (callI env (evalW env) 48 [.ptr p 0, .ptr q 0, .agg (ocells o sv)]) h n (DoP p q) := by
  obtain ⟨kind, code, b, at_⟩ := o
  have hb : b.length ≤ 600 := hb
  have hsv : ArgBytes sv b := hsv
  have okn := ok.n
  have hL : ∀ l ∈ ls, l.length ≤ 900000 := fun l hl => by have := ok.l l hl; omega
  have hL1 : ∀ l ∈ ls, l.length ≤ 1000000 := fun l hl => by have := ok.l l hl; omega
  refine wp_callI ff48 fi48 ?_
  simp only [fu48, Try.f48, Option.getD_some, List.replicate, Nat.reduceAdd, Nat.reduceSub, ocells, gE]
  refine opv_box (v := .agg [.int .i64 kind, .int .u8 code, sv, .int .i64 at_]) ti76 rfl hf fun h1 p1 o1 f1 => ?_
  have o1' : Old h h1 n := fun j hj => o1 j (by omega)
  obtain ⟨e1, p1⟩ := p1
  have p1 : h1 n = some (.row (.l [.int .i64 kind, .int .u8 code, sv, .int .i64 at_]) e1) := p1
  have rw1 : Row h1 n [.int .i64 kind, .int .u8 code, sv, .int .i64 at_] := ⟨e1, p1⟩
  obtain ⟨D, M, E, N, s0, t0, d1, d2⟩ := hP
  have s := s0.old (n' := n + 1) (by omega) o1'
  have t := t0.old (n' := n + 1) (by omega) o1'
  have bs : ∀ j, D j ∨ M j → j < n := fun j hj => hj.elim (fun w => (s0.d j w).1) (fun w => (s0.m j w).1)
  have bt : ∀ j, E j ∨ N j → j < n := fun j hj => hj.elim (fun w => (t0.d j w).1) (fun w => (t0.m j w).1)
  clear s0 t0
  have hSs : ∀ j, D j ∨ M j → decide (j ≠ n) = true := fun j hj => decide_eq_true (by have := bs j hj; omega)
  have hSn : decide (n ≠ n) = false := decide_eq_false (by simp)
  simp only [tyr, fgr, moved, gE]
  rw [opv_rd (Row.one (off := 0) rw1 rfl ti3 rfl)]
  simp only [fgr, bor, gE]
  by_cases k0 : kind = 0
  · subst k0
    simp only [core1, decide_true]
    refine run_draw ⟨rfl, ?_⟩
    simp only [tyr, moved, Nat.reduceAdd, gE]
    rw [fev_rd (Row.one (off := 1) rw1 rfl ti5 rfl)]
    simp only [hkr, Nat.reduceAdd, gE]
    refine fev_in (fun j => decide (j ≠ n)) f1 (f38 p code ls os D M _ (n + 1) (s.in hSs) (by omega) (by omega) hL f1.only) fun v2 h2 n2 r2 w2 hr hn2 f2 ⟨e2, D', M', s2, c2⟩ a2 b2 cr2 cw2 => ?_
    subst e2
    obtain ⟨s2, c2⟩ := in_chg hSs s2 c2 a2 b2 f2
    obtain ⟨t2, d1', d2'⟩ := pr_s t d1 d2 c2
    have rw2 : Row h2 n [.int .i64 0, .int .u8 code, sv, .int .i64 at_] := rw1.keep (b2 n (by omega) hSn)
    have xn : n ∉ w2 := not_in cw2 hSn
    simp only [tyr, moved, Nat.reduceAdd, gE]
    rw [fev_rd (Row.one (off := 1) rw2 rfl ti5 rfl)]
    simp only [hkr, Nat.reduceAdd, gE]
    refine fev_any f2 (f74 q code ls os E N h2 n2 t2 okn hL f2) fun v3 h3 n3 r3 w3 hn3 f3 ⟨e3, E', N', t3, c3⟩ => ?_
    subst e3
    obtain ⟨s3, d1'', d2''⟩ := pr_t s2 d1' d2' c3
    simp only [fgr, bor, Nat.reduceAdd, gE]
    refine ⟨(by (try simp (disch := first | assumption | omega) only [fine, gF]); repeat' (first | rfl | exact (Bool.or_eq_true _ _).mpr (.inr rfl) | refine (Bool.and_eq_true _ _).mpr ⟨?_, ?_⟩)), ?_⟩
    exact ⟨rfl, _, _, all_ok ok, D', M', E', N', s3, t3, d1'', d2''⟩
  by_cases k1 : kind = 1
  · subst k1
    simp only [fgr, bor, k0, gE]
    rw [bs5]
    refine opv_row ti5 f1 fun h2 g2 o2 f2 => ?_
    have rw2 : Row h2 n [.int .i64 1, .int .u8 code, sv, .int .i64 at_] := rw1.keep (o2 n (by omega))
    simp only [tyr, moved, gE]
    rw [opv_rd (Row.one (off := 2) rw2 rfl ti22 rfl)]
    simp only [builtin, gE]
    refine opv_lst_append (i := ⟨.int .u8, 1, 1, .int .u8 0⟩) (e := 5) (cnt := 0) (xs := []) (lst_new g2 rfl (fun k hk => by injection hk with hk; exact hk.symm)) (hsv.bytes h2).rds t22 t22 ti5 (u8_one b) (by decide) (by show 2 * (0 + b.length) * 1 ≤ _; omega) (by omega) f2 ?_
    intro v3 h3 n3 hn3 f3 l3 i3 o3
    rw [List.nil_append, Nat.zero_add] at l3
    have i3' : ∀ j, ownId v3 = some j → n < j ∧ j < n3 := fun j hj => by
      rcases i3 with w | ⟨w, w2⟩
      · rw [w] at hj; injection hj with hj; omega
      · rw [w] at hj; injection hj with hj; omega
    have o3' : Old h1 h3 (n + 1) := fun j hj => by rw [o3 j (by omega) (fun w => by injection w with w; omega), o2 j (by omega)]
    have rw3 : Row h3 n [.int .i64 1, .int .u8 code, sv, .int .i64 at_] := rw1.keep (o3' n (by omega))
    have s3 := s.old (n' := n3) (by omega) o3'
    have t3 := t.old (n' := n3) (by omega) o3'
    simp only [fgr, gE]
    refine run_draw ⟨rfl, ?_⟩
    simp only [hkr, Nat.reduceAdd, gE]
    refine fev_in (fun j => decide (j ≠ n)) f3 (f45 p v3 b ls os D M _ n3 (s3.in hSs) (by omega) ((lst_bytes l3).keep fun j hj => only_in (decide_eq_true (by have := i3' j hj; omega))) f3.only) fun v4 h4 n4 r4 w4 hr hn4 f4 ⟨e4, D', M', s4, c4⟩ a4 b4 cr4 cw4 => ?_
    subst e4
    obtain ⟨s4, c4⟩ := in_chg hSs s4 c4 a4 b4 f4
    obtain ⟨t4, d1', d2'⟩ := pr_s t3 d1 d2 c4
    have rw4 : Row h4 n [.int .i64 1, .int .u8 code, sv, .int .i64 at_] := rw3.keep (b4 n (by omega) hSn)
    have xn : n ∉ w4 := not_in cw4 hSn
    have l4 : Lst h4 5 1 v3 b.length (b.map u8) := l3.keep fun j hj => c4.old j (i3' j hj).2 (fun w => by have := bs j (.inr w); have := i3' j hj; omega)
    simp only [tyr, moved, Nat.reduceAdd, gE]
    rw [fev_rd (Row.one (off := 2) rw4 rfl ti22 rfl)]
    simp only [hkr, Nat.reduceAdd, gE]
    refine fev_any f4 (f75 q sv b ls os E N h4 n4 t4 okn (hsv.bytes h4) (fun j hj => absurd hj (by rw [arg_id hsv]; simp)) f4) fun v5 h5 n5 r5 w5 hn5 f5 ⟨e5, E', N', t5', c5⟩ => ?_
    subst e5
    obtain ⟨s5', d1'', d2''⟩ := pr_t s4 d1' d2' c5
    have l5 : Lst h5 5 1 v3 b.length (b.map u8) := l4.keep fun j hj => c5.old j (by have := (i3' j hj).2; omega) (fun w => by have := bt j (.inr w); have := i3' j hj; omega)
    have rw5 : Row h5 n [.int .i64 1, .int .u8 code, sv, .int .i64 at_] := rw4.keep (c5.old n (by omega) (fun w => by have := bt n (.inr w); omega))
    simp only [bor, Nat.reduceAdd, gE]
    rw [fev_rd ((lst_bytes l5).str_rd t22 t9 t5)]
    simp only [tyr, moved, Nat.reduceAdd, gE]
    rw [fev_rd (Row.one (off := 2) rw5 rfl ti22 rfl)]
    simp only [Nat.reduceAdd, gE]
    rw [fev_rd ((hsv.bytes h5).str_rd t22 t9 t5)]
    simp only [fgr, builtin, bor, strOp, doPick, Nat.reduceAdd, gE]
    refine ⟨(by (try simp (disch := first | assumption | omega) only [fine, gF]); repeat' (first | rfl | exact (Bool.or_eq_true _ _).mpr (.inr rfl) | refine (Bool.and_eq_true _ _).mpr ⟨?_, ?_⟩)), ?_⟩
    simp only [fgr, l5.rds.bLen t22, gE]
    have ob : ∀ j, D' j ∨ M' j → ownId v3 ≠ some j := fun j hj w => by
      have := i3' j w
      rcases hj with q | q
      · rcases c4.d' j q with q | q
        · have := bs j (.inl q); omega
        · omega
      · rcases c4.m' j q with q | q
        · have := bs j (.inr q); omega
        · omega
    have oc : ∀ j, E' j ∨ N' j → ownId v3 ≠ some j := fun j hj w => by
      have := i3' j w
      rcases hj with q | q
      · rcases c5.d' j q with q | q
        · have := bt j (.inl q); omega
        · omega
      · rcases c5.m' j q with q | q
        · have := bt j (.inr q); omega
        · omega
    refine loop48_0 _ _ v3 b.length h5 n5 (by omega) ?_ b.length 0 h5 _ _ _ _ _ _ _ _ _ _ _ _ _ _ _ _ _ _ _ _ _ _ _ _ _ _ _ _ _ _ (by omega) (Bx.of l5) (fun j hj => rfl)
    intro h6 x0 x1 x2 x5 x6 x9 x10 x11 x12 x13 x14 x15 x16 x17 x18 x19 x20 x21 x22 x23 x25 x26 x37 x62 x72 x94 x121 x122 x123 x133 o6
    simp only [fgr, gE]
    exact ⟨rfl, _, _, push_ok ok, D', M', E', N', s5'.beside (Nat.le_refl _) fun j _ hj => o6 j (ob j hj), t5'.beside (Nat.le_refl _) fun j _ hj => o6 j (oc j hj), d1'', d2''⟩
  by_cases k2 : kind = 2
  · subst k2
    simp only [fgr, hkr, bor, k0, k1, gE]
    refine opv_callf f1 (f46 p ls os D M h1 (n + 1) s (by omega) hL1 f1) fun v2 h2 n2 hn2 f2 ⟨⟨a, e2, ab, ai⟩, s2, c2⟩ => ?_
    subst e2
    obtain ⟨t2, d1', d2'⟩ := pr_s t d1 d2 c2
    simp only [fgr, hkr, gE]
    refine opv_callf f2 (f76 q ls os E N h2 n2 t2 (by omega) hL1 f2) fun v3 h3 n3 hn3 f3 ⟨⟨c, e3, cb, ci⟩, t3, c3⟩ => ?_
    subst e3
    obtain ⟨s3, d1'', d2''⟩ := pr_t s2 d1' d2' c3
    have ab3 : Bytes h3 a (topL ls 0) := ab.keep fun j hj => c3.old j (ai j hj).2 (fun w => by have := bt j (.inr w); have := ai j hj; omega)
    simp only [fgr, gE]
    rw [opv_rd (ab3.str_rd t22 t9 t5)]
    simp only [gE]
    rw [opv_rd (cb.str_rd t22 t9 t5)]
    simp only [fgr, bor, strOp, doPick, gE]
    exact ⟨rfl, _, _, pop_ok ok, D, M, E, N, s3, t3, d1'', d2''⟩
  by_cases k3 : kind = 3
  · subst k3
    simp only [tyr, fgr, bor, moved, k0, k1, k2, gE]
    rw [opv_rd (Row.one (off := 3) rw1 rfl ti3 rfl)]
    simp only [hkr, gE]
    refine opv_callf f1 (f43r p at_ ls os D M h1 (n + 1) s (by omega) hL1 f1) fun v2 h2 n2 hn2 f2 ⟨a, e2, al, ai, o2⟩ => ?_
    subst e2
    have s2 := s.old hn2 o2
    have t2 := t.old hn2 o2
    have rw2 : Row h2 n [.int .i64 3, .int .u8 code, sv, .int .i64 at_] := rw1.keep (o2 n (by omega))
    simp only [tyr, fgr, moved, gE]
    rw [opv_rd (Row.one (off := 3) rw2 rfl ti3 rfl)]
    simp only [hkr, gE]
    refine opv_callf f2 (f77 q at_ ls os E N h2 n2 t2 (by omega) hL1 f2) fun v3 h3 n3 hn3 f3 ⟨c, e3, cb, ci, o3⟩ => ?_
    subst e3
    have s3 := s2.old hn3 o3
    have t3 := t2.old hn3 o3
    have al3 : Lst h3 5 1 a (topL ls at_).length ((topL ls at_).map u8) := al.keep fun j hj => o3 j (ai j hj).2
    have htl := top_len (m := 520) ok.l at_
    simp only [fgr, gE]
    rw [opv_rd ((lst_bytes al3).str_rd t22 t9 t5)]
    simp only [gE]
    rw [opv_rd (cb.str_rd t22 t9 t5)]
    simp only [fgr, builtin, bor, strOp, doPick, al3.rds.bLen t22, gE]
    refine loop48_1 _ _ a (topL ls at_).length h3 n3 (by omega) ?_ (topL ls at_).length 0 h3 _ _ _ _ _ _ _ _ _ _ _ _ _ _ _ _ _ _ _ _ _ _ _ _ _ _ _ _ _ _ (by omega) (Bx.of al3) (fun j hj => rfl)
    intro h6 x0 x1 x2 x5 x6 x7 x8 x9 x10 x11 x12 x13 x15 x16 x17 x19 x20 x21 x22 x23 x25 x26 x37 x60 x61 x62 x72 x94 x123 x133 o6
    simp only [fgr, gE]
    exact ⟨rfl, _, _, ok, D, M, E, N, s3.beside (Nat.le_refl _) fun j _ hj => o6 j (fun w => by have := ai j w; have := bs j hj; omega), t3.beside (Nat.le_refl _) fun j _ hj => o6 j (fun w => by have := ai j w; have := bt j hj; omega), d1, d2⟩
  by_cases k4 : kind = 4
  · subst k4
    simp only [fgr, hkr, bor, k0, k1, k2, k3, gE]
    refine opv_callf f1 (f53 p ls os D M h1 (n + 1) s (by omega) hL f1) fun v2 h2 n2 hn2 f2 ⟨e2, s2, c2⟩ => ?_
    subst e2
    have c2 : Chg h1 (n + 1) D M h2 n2 D M := c2.chg (fun _ w => w) (fun _ w => .inl w)
    obtain ⟨t2, d1', d2'⟩ := pr_s t d1 d2 c2
    simp only [fgr, hkr, gE]
    refine opv_callf f2 (f78 q ls os E N h2 n2 t2 (by omega) hL f2) fun v3 h3 n3 hn3 f3 ⟨e3, t3, c3⟩ => ?_
    subst e3
    have c3 : Chg h2 n2 E N h3 n3 E N := c3.chg (fun _ w => w) (fun _ w => .inl w)
    obtain ⟨s3, d1'', d2''⟩ := pr_t s2 d1' d2' c3
    simp only [fgr, bor, doPick, gE]
    exact ⟨rfl, _, _, num_ok ok, D, M, E, N, s3, t3, d1'', d2''⟩
  simp only [fgr, bor, k0, k1, k2, k3, k4, gE]
  exact ⟨rfl, _, _, ok, D, M, E, N, s, t, d1, d2⟩
def cntOf : AVal → Nat
  | .sl _ _ c _ _ => c
  | .isl _ _ _ c => c
  | _ => 0
theorem Lst.cnt {h : Hp} {e : TypeId} {sz cnt : Nat} {v : AVal} {xs : List AVal} (hl : Lst h e sz v cnt xs) : cntOf v = cnt := by cases hl <;> rfl
theorem Bytes.cnt {h : Hp} {v : AVal} {l : List UInt8} (hb : Bytes h v l) : cntOf v = l.length := by cases hb <;> rfl
def AB (h : Hp) (ys : List AVal) : Prop := ∀ (j : Nat) x, ys[j]? = some x → ∃ cnt, cnt ≤ 1000000 ∧ Bx h x cnt
theorem AB.of {h : Hp} {D : Nat → Prop} {ys : List AVal} {ls : List (List UInt8)} (w : Wr8 h ys) (he : Els h D ys ls) (hb : ∀ l ∈ ls, l.length ≤ 1000000) : AB h ys := fun j x hx => by
  obtain ⟨l, hl⟩ := w j x hx
  have hj : j < ls.length := by
    have := (List.getElem?_eq_some_iff.1 hx).1
    have := he.len
    omega
  obtain ⟨y, hy, hy2⟩ := he.get hj
  rw [hx] at hy
  injection hy with hy
  subst hy
  have e : l.length = ls[j].length := (Lst.cnt hl).symm.trans (Bytes.cnt hy2.1)
  exact ⟨_, by rw [e]; exact hb _ (List.getElem_mem hj), Bx.of hl⟩
set_option maxHeartbeats 2000000 in
theorem loop14_2 (Q : Post0) (ks : List Kf) (a1 a5 a7 a40 a41 a98 a99 va x : AVal) (ys : List AVal) (cl cnt k : Nat) (D : Nat → Prop) (h0 : Hp) (n : Nat) (hl : Lst h0 22 1 va cl ys) (hva : ∀ j, ownId va = some j → ¬ D j) (hk : k < cl) (hx : ys[k]? = some x) (hxd : ∀ j, ownId x = some j → D j) (hcnt : cnt ≤ 1000000)
    (hq : ∀ (h : Hp) (x0 x4 x6 x8 x9 x11 x13 x16 x36 x38 x42 x51 x96 x100 x108 : AVal), AB h ys → (∀ j, ¬ D j → h j = h0 j) → Kont env 14 none Q ks (.exit 4) (x0 :: a1 :: AVal.junk :: AVal.junk :: x4 :: a5 :: x6 :: a7 :: x8 :: x9 :: va :: x11 :: .int .i64 (k : Nat) :: x13 :: AVal.junk :: AVal.junk :: x16 :: AVal.junk :: AVal.junk :: AVal.junk :: AVal.junk :: AVal.junk :: AVal.junk :: AVal.junk :: AVal.junk :: AVal.junk :: AVal.junk :: AVal.junk :: AVal.junk :: AVal.junk :: AVal.junk :: AVal.junk :: AVal.junk :: AVal.junk :: AVal.junk :: AVal.junk :: x36 :: AVal.junk :: x38 :: AVal.junk :: a40 :: a41 :: x42 :: AVal.junk :: AVal.junk :: AVal.junk :: AVal.junk :: AVal.junk :: AVal.junk :: AVal.junk :: AVal.junk :: x51 :: AVal.junk :: AVal.junk :: AVal.junk :: AVal.junk :: AVal.junk :: AVal.junk :: AVal.junk :: AVal.junk :: AVal.junk :: AVal.junk :: AVal.junk :: AVal.junk :: AVal.junk :: AVal.junk :: AVal.junk :: AVal.junk :: AVal.junk :: AVal.junk :: AVal.junk :: AVal.junk :: AVal.junk :: AVal.junk :: AVal.junk :: AVal.junk :: AVal.junk :: AVal.junk :: AVal.junk :: AVal.junk :: AVal.junk :: AVal.junk :: AVal.junk :: AVal.junk :: AVal.junk :: AVal.junk :: AVal.junk :: AVal.junk :: AVal.junk :: AVal.junk :: AVal.junk :: AVal.junk :: AVal.junk :: AVal.junk :: AVal.junk :: AVal.junk :: x96 :: AVal.junk :: a98 :: a99 :: x100 :: AVal.junk :: AVal.junk :: AVal.junk :: AVal.junk :: AVal.junk :: .int .i64 (cnt : Nat) :: .int .i64 (cnt : Nat) :: x108 :: AVal.junk :: AVal.junk :: AVal.junk :: AVal.junk :: AVal.junk :: AVal.junk :: AVal.junk :: AVal.junk :: AVal.junk :: AVal.junk :: AVal.junk :: AVal.junk :: AVal.junk :: AVal.junk :: AVal.junk :: AVal.junk :: AVal.junk :: AVal.junk :: AVal.junk :: AVal.junk :: AVal.junk :: AVal.junk :: AVal.junk :: AVal.junk :: AVal.junk :: AVal.junk :: AVal.junk :: AVal.junk :: AVal.junk :: []) h n) :
    ∀ (m i : Nat) (h : Hp) (x0 x4 x6 x8 x9 x11 x13 x16 x36 x38 x42 x51 x96 x100 x108 : AVal), i + m = cnt → AB h ys → Bx h x cnt → (∀ j, ¬ D j → h j = h0 j) →
    Run env 14 none Q (.loop lp14_2) ks (x0 :: a1 :: AVal.junk :: AVal.junk :: x4 :: a5 :: x6 :: a7 :: x8 :: x9 :: va :: x11 :: .int .i64 (k : Nat) :: x13 :: AVal.junk :: AVal.junk :: x16 :: AVal.junk :: AVal.junk :: AVal.junk :: AVal.junk :: AVal.junk :: AVal.junk :: AVal.junk :: AVal.junk :: AVal.junk :: AVal.junk :: AVal.junk :: AVal.junk :: AVal.junk :: AVal.junk :: AVal.junk :: AVal.junk :: AVal.junk :: AVal.junk :: AVal.junk :: x36 :: AVal.junk :: x38 :: AVal.junk :: a40 :: a41 :: x42 :: AVal.junk :: AVal.junk :: AVal.junk :: AVal.junk :: AVal.junk :: AVal.junk :: AVal.junk :: AVal.junk :: x51 :: AVal.junk :: AVal.junk :: AVal.junk :: AVal.junk :: AVal.junk :: AVal.junk :: AVal.junk :: AVal.junk :: AVal.junk :: AVal.junk :: AVal.junk :: AVal.junk :: AVal.junk :: AVal.junk :: AVal.junk :: AVal.junk :: AVal.junk :: AVal.junk :: AVal.junk :: AVal.junk :: AVal.junk :: AVal.junk :: AVal.junk :: AVal.junk :: AVal.junk :: AVal.junk :: AVal.junk :: AVal.junk :: AVal.junk :: AVal.junk :: AVal.junk :: AVal.junk :: AVal.junk :: AVal.junk :: AVal.junk :: AVal.junk :: AVal.junk :: AVal.junk :: AVal.junk :: AVal.junk :: AVal.junk :: AVal.junk :: AVal.junk :: AVal.junk :: x96 :: AVal.junk :: a98 :: a99 :: x100 :: AVal.junk :: AVal.junk :: AVal.junk :: AVal.junk :: AVal.junk :: .int .i64 (cnt : Nat) :: .int .i64 (i : Nat) :: x108 :: AVal.junk :: AVal.junk :: AVal.junk :: AVal.junk :: AVal.junk :: AVal.junk :: AVal.junk :: AVal.junk :: AVal.junk :: AVal.junk :: AVal.junk :: AVal.junk :: AVal.junk :: AVal.junk :: AVal.junk :: AVal.junk :: AVal.junk :: AVal.junk :: AVal.junk :: AVal.junk :: AVal.junk :: AVal.junk :: AVal.junk :: AVal.junk :: AVal.junk :: AVal.junk :: AVal.junk :: AVal.junk :: AVal.junk :: []) h n := by
  intro m
  induction m with
  | zero =>
    intro i h x0 x4 x6 x8 x9 x11 x13 x16 x36 x38 x42 x51 x96 x100 x108 hi ha hb ho
    have : i = cnt := by omega
    subst this
    have hc : ¬ ((i : Nat) : Int) < ((i : Nat) : Int) := by omega
    rw [run_loop]
    simp only [lp14_2, loopsOf, Try.f14, Option.getD_some, fgr, bor, List.getD_cons_zero, List.getD_cons_succ, hc, gE]
    exact hq h _ _ _ _ _ _ _ _ _ _ _ _ _ _ _ ha ho
  | succ m ih =>
    intro i h x0 x4 x6 x8 x9 x11 x13 x16 x36 x38 x42 x51 x96 x100 x108 hi ha hb ho
    have hil : i < cnt := by omega
    have hc : ((i : Nat) : Int) < ((cnt : Nat) : Int) := by omega
    have hwr : IntKind.i64.wrap (((i : Nat) : Int) + 1) = ((i + 1 : Nat) : Int) := by rw [w64 (by omega) (by omega)]; omega
    obtain ⟨xs, z, hxl, hxz⟩ := hb.at hil
    obtain ⟨h2, rs, ws, hw, hb2, ho2⟩ := hb.put (n := n) hil (IntKind.u8.wrap (z + 1))
    have hlh : Lst h 22 1 va cl ys := hl.keep fun j hj => ho j (hva j hj)
    rw [run_loop]
    simp only [lp14_2, loopsOf, Try.f14, Option.getD_some, fgr, bor, List.getD_cons_zero, List.getD_cons_succ, hc, gE]
    rw [opv_rd (hlh.rds.idx (j := k) u53 s22 rfl hk)]
    simp only [Nat.mul_one, gE]
    rw [opv_rd (hlh.rds.load (k := k) ti22 rfl hx)]
    simp only [gE]
    rw [opv_rd (hxl.rds.idx (j := i) t22 s5 rfl hil)]
    simp only [Nat.mul_one, gE]
    rw [opv_rd (hxl.rds.load (k := i) ti5 rfl hxz)]
    simp only [bor, wrapI, gE]
    rw [opv_rd (hxl.rds.idx (j := i) t22 s5 rfl hil)]
    simp only [Nat.mul_one, gE]
    rw [opv_wr hw]
    simp only [fgr, bor, wrapI, hwr, gE]
    exact ih (i + 1) h2 _ _ _ _ _ _ _ _ _ _ _ _ _ _ _ (by omega) (fun j y hy => by obtain ⟨c, hc, hb⟩ := ha j y hy; exact ⟨c, hc, hb2 y c hb⟩) (hb2 x cnt hb) fun j hj => (ho2 j (fun w => hj (hxd j w))).trans (ho j hj)
set_option maxHeartbeats 2000000 in
theorem loop14_1 (Q : Post0) (ks : List Kf) (a1 a5 a7 a40 a41 va : AVal) (ys : List AVal) (cl : Nat) (D : Nat → Prop) (h0 : Hp) (n : Nat) (hl : Lst h0 22 1 va cl ys) (hva : ∀ j, ownId va = some j → ¬ D j) (hcl : cl ≤ 1000000) (hxd : ∀ (i : Nat) x, ys[i]? = some x → ∀ j, ownId x = some j → D j)
    (hq : ∀ (h : Hp) (x0 x4 x6 x8 x9 x11 x12 x13 x16 x36 x38 x42 x51 x96 x98 x99 x100 x106 x107 x108 : AVal), (∀ j, ¬ D j → h j = h0 j) → Kont env 14 none Q ks (.exit 2) (x0 :: a1 :: AVal.junk :: AVal.junk :: x4 :: a5 :: x6 :: a7 :: x8 :: x9 :: va :: x11 :: x12 :: x13 :: AVal.junk :: AVal.junk :: x16 :: AVal.junk :: AVal.junk :: AVal.junk :: AVal.junk :: AVal.junk :: AVal.junk :: AVal.junk :: AVal.junk :: AVal.junk :: AVal.junk :: AVal.junk :: AVal.junk :: AVal.junk :: AVal.junk :: AVal.junk :: AVal.junk :: AVal.junk :: AVal.junk :: AVal.junk :: x36 :: AVal.junk :: x38 :: AVal.junk :: a40 :: a41 :: x42 :: AVal.junk :: AVal.junk :: AVal.junk :: AVal.junk :: AVal.junk :: AVal.junk :: AVal.junk :: AVal.junk :: x51 :: AVal.junk :: AVal.junk :: AVal.junk :: AVal.junk :: AVal.junk :: AVal.junk :: AVal.junk :: AVal.junk :: AVal.junk :: AVal.junk :: AVal.junk :: AVal.junk :: AVal.junk :: AVal.junk :: AVal.junk :: AVal.junk :: AVal.junk :: AVal.junk :: AVal.junk :: AVal.junk :: AVal.junk :: AVal.junk :: AVal.junk :: AVal.junk :: AVal.junk :: AVal.junk :: AVal.junk :: AVal.junk :: AVal.junk :: AVal.junk :: AVal.junk :: AVal.junk :: AVal.junk :: AVal.junk :: AVal.junk :: AVal.junk :: AVal.junk :: AVal.junk :: AVal.junk :: AVal.junk :: AVal.junk :: AVal.junk :: AVal.junk :: AVal.junk :: x96 :: AVal.junk :: x98 :: x99 :: x100 :: AVal.junk :: AVal.junk :: AVal.junk :: AVal.junk :: AVal.junk :: x106 :: x107 :: x108 :: AVal.junk :: AVal.junk :: AVal.junk :: AVal.junk :: AVal.junk :: AVal.junk :: AVal.junk :: AVal.junk :: AVal.junk :: AVal.junk :: AVal.junk :: AVal.junk :: AVal.junk :: AVal.junk :: AVal.junk :: AVal.junk :: AVal.junk :: AVal.junk :: AVal.junk :: AVal.junk :: AVal.junk :: AVal.junk :: AVal.junk :: AVal.junk :: AVal.junk :: AVal.junk :: AVal.junk :: AVal.junk :: AVal.junk :: []) h n) :
    ∀ (m k : Nat) (h : Hp) (x0 x4 x6 x8 x9 x11 x12 x13 x16 x36 x38 x42 x51 x96 x100 x106 x107 x108 : AVal), k + m = cl → AB h ys → (∀ j, ¬ D j → h j = h0 j) →
    Run env 14 none Q (.loop lp14_1) ks (x0 :: a1 :: AVal.junk :: AVal.junk :: x4 :: a5 :: x6 :: a7 :: x8 :: x9 :: va :: x11 :: x12 :: x13 :: AVal.junk :: AVal.junk :: x16 :: AVal.junk :: AVal.junk :: AVal.junk :: AVal.junk :: AVal.junk :: AVal.junk :: AVal.junk :: AVal.junk :: AVal.junk :: AVal.junk :: AVal.junk :: AVal.junk :: AVal.junk :: AVal.junk :: AVal.junk :: AVal.junk :: AVal.junk :: AVal.junk :: AVal.junk :: x36 :: AVal.junk :: x38 :: AVal.junk :: a40 :: a41 :: x42 :: AVal.junk :: AVal.junk :: AVal.junk :: AVal.junk :: AVal.junk :: AVal.junk :: AVal.junk :: AVal.junk :: x51 :: AVal.junk :: AVal.junk :: AVal.junk :: AVal.junk :: AVal.junk :: AVal.junk :: AVal.junk :: AVal.junk :: AVal.junk :: AVal.junk :: AVal.junk :: AVal.junk :: AVal.junk :: AVal.junk :: AVal.junk :: AVal.junk :: AVal.junk :: AVal.junk :: AVal.junk :: AVal.junk :: AVal.junk :: AVal.junk :: AVal.junk :: AVal.junk :: AVal.junk :: AVal.junk :: AVal.junk :: AVal.junk :: AVal.junk :: AVal.junk :: AVal.junk :: AVal.junk :: AVal.junk :: AVal.junk :: AVal.junk :: AVal.junk :: AVal.junk :: AVal.junk :: AVal.junk :: AVal.junk :: AVal.junk :: AVal.junk :: AVal.junk :: AVal.junk :: x96 :: AVal.junk :: .int .i64 (cl : Nat) :: .int .i64 (k : Nat) :: x100 :: AVal.junk :: AVal.junk :: AVal.junk :: AVal.junk :: AVal.junk :: x106 :: x107 :: x108 :: AVal.junk :: AVal.junk :: AVal.junk :: AVal.junk :: AVal.junk :: AVal.junk :: AVal.junk :: AVal.junk :: AVal.junk :: AVal.junk :: AVal.junk :: AVal.junk :: AVal.junk :: AVal.junk :: AVal.junk :: AVal.junk :: AVal.junk :: AVal.junk :: AVal.junk :: AVal.junk :: AVal.junk :: AVal.junk :: AVal.junk :: AVal.junk :: AVal.junk :: AVal.junk :: AVal.junk :: AVal.junk :: AVal.junk :: []) h n := by
  intro m
  induction m with
  | zero =>
    intro k h x0 x4 x6 x8 x9 x11 x12 x13 x16 x36 x38 x42 x51 x96 x100 x106 x107 x108 hi ha ho
    have : k = cl := by omega
    subst this
    have hc : ¬ ((k : Nat) : Int) < ((k : Nat) : Int) := by omega
    rw [run_loop]
    simp only [lp14_1, loopsOf, Try.f14, Option.getD_some, fgr, bor, List.getD_cons_zero, List.getD_cons_succ, hc, gE]
    exact hq h _ _ _ _ _ _ _ _ _ _ _ _ _ _ _ _ _ _ _ _ ho
  | succ m ih =>
    intro k h x0 x4 x6 x8 x9 x11 x12 x13 x16 x36 x38 x42 x51 x96 x100 x106 x107 x108 hi ha ho
    have hil : k < cl := by omega
    have hc : ((k : Nat) : Int) < ((cl : Nat) : Int) := by omega
    have hwr : IntKind.i64.wrap (((k : Nat) : Int) + 1) = ((k + 1 : Nat) : Int) := by rw [w64 (by omega) (by omega)]; omega
    have hyl := hl.rds.length
    have hxk : ys[k]? = some ys[k] := List.getElem?_eq_getElem (by omega)
    obtain ⟨cnt, hcnt, hb⟩ := ha k _ hxk
    have hlh : Lst h 22 1 va cl ys := hl.keep fun j hj => ho j (hva j hj)
    obtain ⟨xs, hxl, hxb⟩ := hb
    have hb : Bx h ys[k] cnt := ⟨xs, hxl, hxb⟩
    rw [run_loop]
    simp only [lp14_1, loopsOf, Try.f14, Option.getD_some, fgr, bor, List.getD_cons_zero, List.getD_cons_succ, hc, gE]
    rw [opv_rd (hlh.rds.idx (j := k) u53 s22 rfl hil)]
    simp only [Nat.mul_one, gE]
    rw [opv_rd (hlh.rds.load (k := k) ti22 rfl hxk)]
    simp only [fgr, builtin, hxl.rds.bLen t22, gE]
    refine loop14_2 _ _ a1 a5 a7 a40 a41 _ _ va ys[k] ys cl cnt k D h n hlh hva hil hxk (hxd k _ hxk) hcnt ?_ cnt 0 h _ _ _ _ _ _ _ _ _ _ _ _ _ _ _ (by omega) ha hb (fun j hj => rfl)
    intro h2 x0 x4 x6 x8 x9 x11 x13 x16 x36 x38 x42 x51 x96 x100 x108 ha2 ho2
    simp only [fgr, bor, wrapI, hwr, gE]
    exact ih (k + 1) h2 _ _ _ _ _ _ _ _ _ _ _ _ _ _ _ _ _ _ (by omega) ha2 fun j hj => (ho2 j hj).trans (ho j hj)
theorem twin_in {h hr h' : Hp} {n n' : Nat} {v : AVal} {ls : List (List UInt8)} {S : Nat → Bool} (t : TwinP (only S h) n ls v hr n') (a : ∀ k, S k = true ∨ n ≤ k → h' k = hr k) (b : ∀ k, k < n → S k = false → h' k = h k) : TwinP h n ls v h' n' := by
  obtain ⟨ys, D, l, el, w, d, i, o⟩ := t
  refine ⟨ys, D, l.keep fun j hj => a j (.inr (i j hj).1), el.mono (fun _ q => q) (fun j hj => a j (.inr (d j hj).1)), fun j x hx => ?_, d, i, fun j hj => ?_⟩
  · obtain ⟨m, hm⟩ := w j x hx
    have hj : j < ls.length := by
      have := (List.getElem?_eq_some_iff.1 hx).1
      have := el.len
      omega
    obtain ⟨y, hy, hy2⟩ := el.get hj
    rw [hx] at hy
    injection hy with hy
    subst hy
    exact ⟨m, hm.keep fun k hk => a k (.inr (d k (hy2.2 k hk)).1)⟩
  · cases hs : S j with
    | true => rw [a j (.inl hs), o j hj, only_in hs]
    | false => exact b j hj hs
theorem newE_cases (ls : List (List UInt8)) : newE ls = 0 ∨ newE ls = 120 ∨ newE ls = 121 := by
  unfold newE
  split
  · exact .inr (.inl rfl)
  · split
    · exact .inr (.inr rfl)
    · exact .inl rfl
end Go.Am.Ytmoplhbncjicbaa
set_option linter.unusedSimpArgs false
set_option linter.unusedVariables false
set_option linter.defProp false
set_option maxRecDepth 10000
namespace Go.Am.Ytmoplhbncjicbaa
open Go Go.Am Go.Proofs
set_option maxHeartbeats 8000000 in
theorem loop14_0 (Q : Post0) (ks : List Kf) (a : AVal) (os : List OpC) (xs : List AVal) (p q : Nat) (ha : ArgC a os xs) (hov : ∀ o ∈ os, o.b.length ≤ 600) (hos : os.length ≤ 200)
  (hq : ∀ (h : Hp) n ls lo (x0 x4 x6 x8 x9 x10 x11 x12 x13 x16 x36 x38 x42 x51 x96 x98 x99 x100 x106 x107 x108 : AVal), Pr h n p q ls lo → Ok ls lo → Free h n → Kont env 14 none Q ks (.exit 0) (x0 :: a :: AVal.junk :: AVal.junk :: x4 :: .ptr p 0 :: x6 :: .ptr q 0 :: x8 :: x9 :: x10 :: x11 :: x12 :: x13 :: AVal.junk :: AVal.junk :: x16 :: AVal.junk :: AVal.junk :: AVal.junk :: AVal.junk :: AVal.junk :: AVal.junk :: AVal.junk :: AVal.junk :: AVal.junk :: AVal.junk :: AVal.junk :: AVal.junk :: AVal.junk :: AVal.junk :: AVal.junk :: AVal.junk :: AVal.junk :: AVal.junk :: AVal.junk :: x36 :: AVal.junk :: x38 :: AVal.junk :: .int .i64 (os.length : Nat) :: .int .i64 (os.length : Nat) :: x42 :: AVal.junk :: AVal.junk :: AVal.junk :: AVal.junk :: AVal.junk :: AVal.junk :: AVal.junk :: AVal.junk :: x51 :: AVal.junk :: AVal.junk :: AVal.junk :: AVal.junk :: AVal.junk :: AVal.junk :: AVal.junk :: AVal.junk :: AVal.junk :: AVal.junk :: AVal.junk :: AVal.junk :: AVal.junk :: AVal.junk :: AVal.junk :: AVal.junk :: AVal.junk :: AVal.junk :: AVal.junk :: AVal.junk :: AVal.junk :: AVal.junk :: AVal.junk :: AVal.junk :: AVal.junk :: AVal.junk :: AVal.junk :: AVal.junk :: AVal.junk :: AVal.junk :: AVal.junk :: AVal.junk :: AVal.junk :: AVal.junk :: AVal.junk :: AVal.junk :: AVal.junk :: AVal.junk :: AVal.junk :: AVal.junk :: AVal.junk :: AVal.junk :: AVal.junk :: AVal.junk :: x96 :: AVal.junk :: x98 :: x99 :: x100 :: AVal.junk :: AVal.junk :: AVal.junk :: AVal.junk :: AVal.junk :: x106 :: x107 :: x108 :: AVal.junk :: AVal.junk :: AVal.junk :: AVal.junk :: AVal.junk :: AVal.junk :: AVal.junk :: AVal.junk :: AVal.junk :: AVal.junk :: AVal.junk :: AVal.junk :: AVal.junk :: AVal.junk :: AVal.junk :: AVal.junk :: AVal.junk :: AVal.junk :: AVal.junk :: AVal.junk :: AVal.junk :: AVal.junk :: AVal.junk :: AVal.junk :: AVal.junk :: AVal.junk :: AVal.junk :: AVal.junk :: AVal.junk :: []) h n) :
  ∀ (m i : Nat) (h : Hp) (n : Nat) ls lo (x0 x4 x6 x8 x9 x10 x11 x12 x13 x16 x36 x38 x42 x51 x96 x98 x99 x100 x106 x107 x108 : AVal), i + m = os.length → Pr h n p q ls lo → Ok ls lo → Free h n →
  Run env 14 none Q (.loop lp14_0) ks (x0 :: a :: AVal.junk :: AVal.junk :: x4 :: .ptr p 0 :: x6 :: .ptr q 0 :: x8 :: x9 :: x10 :: x11 :: x12 :: x13 :: AVal.junk :: AVal.junk :: x16 :: AVal.junk :: AVal.junk :: AVal.junk :: AVal.junk :: AVal.junk :: AVal.junk :: AVal.junk :: AVal.junk :: AVal.junk :: AVal.junk :: AVal.junk :: AVal.junk :: AVal.junk :: AVal.junk :: AVal.junk :: AVal.junk :: AVal.junk :: AVal.junk :: AVal.junk :: x36 :: AVal.junk :: x38 :: AVal.junk :: .int .i64 (os.length : Nat) :: .int .i64 (i : Nat) :: x42 :: AVal.junk :: AVal.junk :: AVal.junk :: AVal.junk :: AVal.junk :: AVal.junk :: AVal.junk :: AVal.junk :: x51 :: AVal.junk :: AVal.junk :: AVal.junk :: AVal.junk :: AVal.junk :: AVal.junk :: AVal.junk :: AVal.junk :: AVal.junk :: AVal.junk :: AVal.junk :: AVal.junk :: AVal.junk :: AVal.junk :: AVal.junk :: AVal.junk :: AVal.junk :: AVal.junk :: AVal.junk :: AVal.junk :: AVal.junk :: AVal.junk :: AVal.junk :: AVal.junk :: AVal.junk :: AVal.junk :: AVal.junk :: AVal.junk :: AVal.junk :: AVal.junk :: AVal.junk :: AVal.junk :: AVal.junk :: AVal.junk :: AVal.junk :: AVal.junk :: AVal.junk :: AVal.junk :: AVal.junk :: AVal.junk :: AVal.junk :: AVal.junk :: AVal.junk :: AVal.junk :: x96 :: AVal.junk :: x98 :: x99 :: x100 :: AVal.junk :: AVal.junk :: AVal.junk :: AVal.junk :: AVal.junk :: x106 :: x107 :: x108 :: AVal.junk :: AVal.junk :: AVal.junk :: AVal.junk :: AVal.junk :: AVal.junk :: AVal.junk :: AVal.junk :: AVal.junk :: AVal.junk :: AVal.junk :: AVal.junk :: AVal.junk :: AVal.junk :: AVal.junk :: AVal.junk :: AVal.junk :: AVal.junk :: AVal.junk :: AVal.junk :: AVal.junk :: AVal.junk :: AVal.junk :: AVal.junk :: AVal.junk :: AVal.junk :: AVal.junk :: AVal.junk :: AVal.junk :: []) h n := by
 have hrid : rid a = [] := by unfold rid; rw [ha.id]; rfl
 intro m
 induction m with
 | zero =>
  intro i h n ls lo x0 x4 x6 x8 x9 x10 x11 x12 x13 x16 x36 x38 x42 x51 x96 x98 x99 x100 x106 x107 x108 hi hP ok hf
  have : i = os.length := by omega
  subst this
  have hc : ¬ ((os.length : Nat) : Int) < ((os.length : Nat) : Int) := by omega
  rw [run_loop]
  simp only [lp14_0, loopsOf, Try.f14, Option.getD_some, fgr, bor, List.getD_cons_zero, hc, gE]
  exact hq h n ls lo _ _ _ _ _ _ _ _ _ _ _ _ _ _ _ _ _ _ _ _ _ hP ok hf
 | succ m ih =>
  intro i h n ls lo x0 x4 x6 x8 x9 x10 x11 x12 x13 x16 x36 x38 x42 x51 x96 x98 x99 x100 x106 x107 x108 hi hP ok hf
  have hil : i < os.length := by omega
  have hc : ((i : Nat) : Int) < ((os.length : Nat) : Int) := by omega
  have hwr : IntKind.i64.wrap (((i : Nat) : Int) + 1) = ((i + 1 : Nat) : Int) := by rw [w64 (by omega) (by omega)]; omega
  obtain ⟨sv, e, hv⟩ := ha.at_ i hil
  have hr0 := ha.rd h
  have hmem : os[i] ∈ os := List.getElem_mem hil
  have hcode : xs[i * 4 + 1]? = some (.int .u8 os[i].code) := by rw [piece e (by omega)]; rfl
  have hob := hov _ hmem
  generalize hoi : os[i] = o at *
  have hld := hr0.agg (E := env) (n := n) (k := i * 4) ti76 rfl (by decide) (by show i * 4 + 4 ≤ _; rw [hr0.length]; omega)
  have hld' : Rd (load env 76 (addrOf (i * 4) a)) h n (rid a) (.agg (ocells o sv)) := by
   have e' : (xs.drop (i * 4)).take 4 = ocells o sv := e
   exact e' ▸ hld
  rw [run_loop]
  simp only [lp14_0, loopsOf, Try.f14, Option.getD_some, fgr, bor, List.getD_cons_zero, hc, gE]
  rw [opv_rd (hr0.idx (j := i) u70 z76 rfl hil)]
  simp only [gE]
  rw [opv_rd hld']
  simp only [hkr, gE]
  refine opv_callf hf (f48 p q o sv ls lo h n hP ok hv hob hf) fun v1 h1 n1 hn1 f1 ⟨e1, ls1, lo1, ok1, P1⟩ => ?_
  subst e1
  have okn := ok1.n
  have hL : ∀ l ∈ ls1, l.length ≤ 1000000 := fun l hl => by have := ok1.l l hl; omega
  have hO : ∀ l ∈ lo1, l.length ≤ 1000000 := fun l hl => by have := ok1.o l hl; omega
  have P1' := P1
  obtain ⟨D, M, E, N, s1, t1, d1, d2⟩ := P1'
  simp only [fgr, hkr, unOp, gE]
  refine opv_callf f1 (f40 p ls1 lo1 D M h1 n1 s1 (by omega) hL f1) fun v2 h2 n2 hn2 f2 ⟨ys, D2, l2, el2, w2, hd2, i2, o2⟩ => ?_
  have s2 := s1.old hn2 o2
  have t2 := t1.old hn2 o2
  simp only [hkr, gE]
  refine opv_callf f2 (f41 p ls1 lo1 D M h2 n2 s2 (by omega) hO f2) fun v3 h3 n3 hn3 f3 ⟨zs, D3, l3, el3, w3, hd3, i3, o3⟩ => ?_
  have s3 := s2.old hn3 o3
  have t3 := t2.old hn3 o3
  have l2' : Lst h3 22 1 v2 ls1.length ys := l2.keep fun j hj => o3 j (i2 j hj).2.1
  have el2' : Els h3 D2 ys ls1 := el2.mono (fun _ w => w) (fun j hj => o3 j (hd2 j hj).2)
  have ab2 : AB h3 ys := by
   have w2' : Wr8 h3 ys := fun j x hx => by
    obtain ⟨m, hm⟩ := w2 j x hx
    have hj : j < ls1.length := by
     have := (List.getElem?_eq_some_iff.1 hx).1
     have := el2.len
     omega
    obtain ⟨y, hy, hy2⟩ := el2.get hj
    rw [hx] at hy
    injection hy with hy
    subst hy
    exact ⟨m, hm.keep fun k hk => o3 k (hd2 k (hy2.2 k hk)).2⟩
   exact AB.of w2' el2' hL
  have hxd : ∀ (j : Nat) x, ys[j]? = some x → ∀ k, ownId x = some k → D2 k := fun j x hx k hk => by
   have hj : j < ls1.length := by
    have := (List.getElem?_eq_some_iff.1 hx).1
    have := el2.len
    omega
   obtain ⟨y, hy, hy2⟩ := el2.get hj
   rw [hx] at hy
   injection hy with hy
   subst hy
   exact hy2.2 k hk
  obtain ⟨wl, wo, yl, yo, tv, tp, tl, to_, tn⟩ := t3
  have hqn : q < n1 := t1.p.2
  have hqD : ∀ j, D j ∨ M j → decide (j ≠ q) = true := fun j hj => decide_eq_true (fun e => by subst e; exact hj.elim (d2 j t1.p.1) (fun w => (d1 j w).2 t1.p.1))
  have hqS : decide (q ≠ q) = false := decide_eq_false (by simp)
  simp only [fgr, gE]
  refine run_draw ⟨rfl, ?_⟩
  simp only [tyr, moved, Nat.reduceAdd, gE]
  rw [fev_rd (Row.one (off := 0) tv.row rfl ti53 rfl)]
  simp only [hkr, Nat.reduceAdd, gE]
  refine fev_any f3 (f39 v2 wl ys yl ls1 ls1 D2 E h3 n3 (by omega) l2'.rds tv.l.rds el2' tv.le hL hL f3) fun v4 h4 n4 r4 w4 hn4 f4 ⟨e4, eh4, en4⟩ => ?_
  subst e4; subst eh4; subst en4
  simp only [tyr, unOp, moved, Nat.reduceAdd, gE]
  rw [fev_rd (Row.one (off := 1) tv.row rfl ti53 rfl)]
  simp only [hkr, Nat.reduceAdd, gE]
  refine fev_any f3 (f39 v3 wo zs yo lo1 lo1 D3 E h4 n4 (by omega) l3.rds tv.o.rds el3 tv.oe hO hO f3) fun v5 h5 n5 r5 w5 hn5 f5 ⟨e5, eh5, en5⟩ => ?_
  subst e5; subst eh5; subst en5
  simp only [hkr, unOp, doPick, Nat.reduceAdd, gE]
  refine fev_in (fun j => decide (j ≠ q)) f3 (f42 p ls1 lo1 D M _ n5 (s3.in hqD) f3.only) fun v6 h6 n6 r6 w6 hr hn6 f6 ⟨e6, o6⟩ a6 b6 cr6 cw6 => ?_
  subst e6
  have o6' : Old h5 h6 n5 := fun j hj => by
   by_cases hs : j = q
   ·exact b6 j hj (decide_eq_false (by simp [hs]))
   ·rw [a6 j (.inl (decide_eq_true hs)), o6 j hj, only_in (decide_eq_true hs)]
  have xq : q ∉ w6 := not_in cw6 hqS
  have hq5 : q < n5 := by omega
  have row6 : Row h6 q [wl, wo] := tv.row.imp fun _ w => (o6' q hq5).trans w
  simp only [tyr, moved, Nat.reduceAdd, gE]
  rw [fev_rd (Row.one (off := 0) row6 rfl ti53 rfl)]
  have lw6 : Lst h6 22 1 wl ls1.length yl := tv.l.keep fun j hj => o6' j (tn j (tl j hj)).1
  simp only [builtin, bor, doPick, Nat.reduceAdd, lw6.rds.bLen u53, gE]
  have hr6 := ha.rd h6
  have m1 := moved_adr hr6 (by omega) (i * 4) 1
  rw [fev_rd (hr6.idx (j := i) u70 z76 rfl hil)]
  simp only [tyr, Nat.reduceAdd, m1, gE]
  rw [fev_rd (hr6.load (k := i * 4 + 1) ti5 rfl hcode), hrid]
  simp only [hkr, Nat.reduceAdd, gE]
  refine fev_any f6 (f44 h6 n6 o.code) fun v7 h7 n7 r7 w7 hn7 f7 ⟨e7, eh7, en7⟩ => ?_
  subst e7; subst eh7; subst en7
  simp only [Nat.reduceAdd, gE]
  rw [fev_rd (hr6.idx (j := i) u70 z76 rfl hil)]
  simp only [tyr, Nat.reduceAdd, m1, gE]
  rw [fev_rd (hr6.load (k := i * 4 + 1) ti5 rfl hcode), hrid]
  simp only [hkr, Nat.reduceAdd, gE]
  refine fev_any f6 (f49 h7 n7 o.code) fun v8 h8 n8 r8 w8 hn8 f8 ⟨e8, eh8, en8⟩ => ?_
  subst e8; subst eh8; subst en8
  simp only [tyr, fgr, builtin, bor, binOther, aggK, doPick, equalTop, equal, nilFn, nilPtr, boolOf, Nat.reduceAdd, gE]
  refine ⟨(by (try simp (disch := first | assumption | omega) only [fine, gF]); repeat' (first | rfl | exact (Bool.or_eq_true _ _).mpr (.inr rfl) | refine (Bool.and_eq_true _ _).mpr ⟨?_, ?_⟩)), ?_⟩
  have l6 : Lst h8 22 1 v2 ls1.length ys := l2'.keep fun j hj => o6' j (by have := (i2 j hj).2.1; omega)
  have ab6 : AB h8 ys := fun j x hx => by
   obtain ⟨c, hc, hb⟩ := ab2 j x hx
   exact ⟨c, hc, hb.keep fun k hk => o6' k (by have := (hd2 k (hxd j x hx k hk)).2; omega)⟩
  simp only [fgr, l6.rds.bLen u53, gE]
  refine loop14_1 _ _ a (.ptr p 0) (.ptr q 0) (.int .i64 (os.length : Nat)) (.int .i64 (i : Nat)) v2 ys ls1.length D2 h8 n8 l6 (fun j hj => (i2 j hj).2.2) (by omega) hxd ?_ ls1.length 0 h8 _ _ _ _ _ _ _ _ _ _ _ _ _ _ _ _ _ _ (by omega) ab6 (fun j hj => rfl)
  intro H7 x0 x4 x6 x8 x9 x11 x12 x13 x16 x36 x38 x42 x51 x96 x98 x99 x100 x106 x107 x108 o7
  simp only [fgr, bor, wrapI, hwr, gE]
  have F7 : Free H7 n8 := fun j hj => by rw [o7 j (fun w => by have := (hd2 j w).2; omega)]; exact f6 j hj
  have P7 : Pr H7 n8 p q ls1 lo1 := P1.beside (by omega) fun j hj => by
   rw [o7 j (fun w => by have := (hd2 j w).1; omega), o6' j (by omega), o3 j (by omega), o2 j hj]
  exact ih (i + 1) H7 n8 ls1 lo1 _ _ _ _ _ _ _ _ _ _ _ _ _ _ _ _ _ _ _ _ _ (by omega) P7 ok1 F7
set_option maxHeartbeats 8000000 in
theorem law14 (v : AVal) (hv : Arg Try.prog 53 [v]) (w : AVal) (hw : Arg Try.prog 70 [w]) : Wp (callI env (evalW env) 14 [v, w]) (fun _ => none) 0 fun v' _ _ => v' = .bool true := by
 obtain ⟨ls, xs, hl⟩ := argL hv
 obtain ⟨os, ys, ha⟩ := arg_calls hw
 refine wp_callI ff14 fi14 ?_
 have f0 : Free (fun _ => none) 0 := Free.none
 generalize (fun _ => none : Hp) = h0 at *
 have hml := hl.len
 have hmx : maxLen = 9223372036854775807 := by decide
 have hvn : ∀ {m : Nat} (j : Nat), ownId v = some j → j < m := fun j hj => by rw [hl.id] at hj; cases hj
 simp only [fu14, Try.f14, Option.getD_some, List.replicate, fgr, hkr, Nat.reduceAdd, Nat.reduceSub, gE]
 refine opv_same (f36r v w xs ys ls os (fun _ => False) h0 0 (by omega) (hl.rd h0) (hl.el h0) ha) ?_
 cases hg : greatC ls os with
 | true => simp only [fgr, gE]
 | false =>
 obtain ⟨g1, g2, g3, g4⟩ := great_false hg
 simp only [fgr, hkr, gE]
 refine opv_callf f0 (f37 v xs ls (fun _ => False) h0 0 (by omega) (hl.rd h0) hvn (hl.el h0) (fun j hj => hj.elim) f0) fun v3 h3 n3 hn3 f3 ⟨o3, hh⟩ => ?_
 rcases hh with ⟨hne, e3⟩ | ⟨hne, p, e3, st⟩
 ·subst e3
  simp only [fgr, hkr, gE]
  refine opv_callf f3 (f47 v xs ls (fun _ => False) h3 n3 (by omega) (hl.rd h3) hvn (hl.el h3) (fun j hj => hj.elim) f3) fun v4 h4 n4 hn4 f4 ⟨o4, hh⟩ => ?_
  rcases hh with ⟨hne2, e4⟩ | ⟨hne2, _⟩
  ·subst e4
   rcases newE_cases ls with he | he | he
   ·exact absurd he hne
   ·simp only [tyr, fgr, bor, binOther, aggK, doPick, equalTop, equal, nilFn, nilPtr, boolOf, Int.reduceEq, he, gE]
   ·simp only [tyr, fgr, bor, binOther, aggK, doPick, equalTop, equal, nilFn, nilPtr, boolOf, Int.reduceEq, he, gE]
  ·exact absurd hne2 hne
 subst e3
 have ok0 := new_ok hne
 simp only [fgr, hkr, gE]
 refine opv_callf f3 (f47 v xs ls (fun _ => False) h3 n3 (by omega) (hl.rd h3) hvn (hl.el h3) (fun j hj => hj.elim) f3) fun v4 h4 n4 hn4 f4 ⟨o4, hh⟩ => ?_
 rcases hh with ⟨hne2, _⟩ | ⟨_, q, e4, st2⟩
 ·exact absurd hne hne2
 subst e4
 obtain ⟨D, M, s, hd, hm⟩ := st
 obtain ⟨E, N, t, he, hn⟩ := st2
 have s4 := s.old hn4 o4
 have P4 : Pr h4 n4 p q ls [] := ⟨D, M, E, N, s4, t, fun j hj => ⟨fun w => by have := he j w; have := (s.m j hj).1; omega, fun w => by have := hn j w; have := (s.m j hj).1; omega⟩, fun j hj w => by have := hn j hj; have := (s.d j w).1; omega⟩
 simp only [tyr, fgr, builtin, bor, binOther, aggK, doPick, equalTop, equal, nilFn, nilPtr, boolOf, (ha.rd h4).bLen u70, gE]
 refine loop14_0 _ _ w os ys p q ha g4 g3 ?_ os.length 0 h4 n4 ls [] _ _ _ _ _ _ _ _ _ _ _ _ _ _ _ _ _ _ _ _ _ (by omega) P4 ok0 f4
 intro h5 n5 ms ns x0 x4 x6 x8 x9 x10 x11 x12 x13 x16 x36 x38 x42 x51 x96 x98 x99 x100 x106 x107 x108 P5 ok5 f5
 obtain ⟨D, M, E, N, s, t, d1, d2⟩ := P5
 have okn := ok5.n
 have hL : ∀ l ∈ ms, l.length ≤ 1000000 := fun l hl => by have := ok5.l l hl; omega
 have hO : ∀ l ∈ ns, l.length ≤ 1000000 := fun l hl => by have := ok5.o l hl; omega
 have hqn : q < n5 := t.p.2
 have hqD : ∀ j, D j ∨ M j → decide (j ≠ q) = true := fun j hj => decide_eq_true (fun e => by subst e; exact hj.elim (d2 j t.p.1) (fun w => (d1 j w).2 t.p.1))
 have hqS : decide (q ≠ q) = false := decide_eq_false (by simp)
 simp only [core1]
 refine run_draw ⟨rfl, ?_⟩
 simp only [hkr, gE]
 refine fev_in (fun j => decide (j ≠ q)) f5 (f40 p ms ns D M _ n5 (s.in hqD) (by omega) hL f5.only) fun v6 h6 n6 r6 w6 hr hn6 f6 t6 a6 b6 cr6 cw6 => ?_
 obtain ⟨zs, D6, l6, el6, _, hd6, i6, o6⟩ := twin_in t6 a6 b6
 have xq6 : q ∉ w6 := not_in cw6 hqS
 have s6 := s.old hn6 o6
 have t6' := t.old hn6 o6
 obtain ⟨wl, wo, yl, yo, tv, tp, tl, to_, tn⟩ := t6'
 simp only [tyr, moved, Nat.reduceAdd, gE]
 rw [fev_rd (Row.one (off := 0) tv.row rfl ti53 rfl)]
 simp only [hkr, Nat.reduceAdd, gE]
 refine fev_any f6 (f39 v6 wl zs yl ms ms D6 E h6 n6 (by omega) l6.rds tv.l.rds el6 tv.le hL hL f6) fun v7 h7 n7 r7 w7 hn7 f7 ⟨e7, eh7, en7⟩ => ?_
 subst e7; subst eh7; subst en7
 simp only [hkr, Nat.reduceAdd, gE]
 refine fev_in (fun j => decide (j ≠ q)) f6 (f41 p ms ns D M _ n7 (s6.in hqD) (by omega) hO f6.only) fun v8 h8 n8 r8 w8 hr8 hn8 f8 t8 a8 b8 cr8 cw8 => ?_
 obtain ⟨us, D8, l8, el8, _, hd8, i8, o8⟩ := twin_in t8 a8 b8
 have xq8 : q ∉ w8 := not_in cw8 hqS
 have q8 : q < n7 := by omega
 have tv8 := tv.keep hn8 (o8 q q8) (fun j hj => o8 j (tn j (tl j hj)).1) (fun j hj => o8 j (tn j (to_ j hj)).1) (fun j hj => o8 j (tv.dn j hj))
 simp only [tyr, moved, Nat.reduceAdd, gE]
 rw [fev_rd (Row.one (off := 1) tv8.row rfl ti53 rfl)]
 simp only [hkr, Nat.reduceAdd, gE]
 refine fev_any f8 (f39 v8 wo us yo ns ns D8 E h8 n8 (by omega) l8.rds tv8.o.rds el8 tv8.oe hO hO f8) fun v9 h9 n9 r9 w9 hn9 f9 ⟨e9, eh9, en9⟩ => ?_
 subst e9; subst eh9; subst en9
 simp only [fgr, doPick, Nat.reduceAdd, gE]
 exact (by (try simp (disch := first | assumption | omega) only [fine, gF]); repeat' (first | rfl | exact (Bool.or_eq_true _ _).mpr (.inr rfl) | refine (Bool.and_eq_true _ _).mpr ⟨?_, ?_⟩))
end Go.Am.Ytmoplhbncjicbaa
