/- What the statement reaches, gone through; and the abstract machine that goes through it. -/
import Derived.Test.YtlgebaofkolkoaaGE
set_option linter.unusedSimpArgs false
set_option linter.unusedVariables false
set_option linter.defProp false
set_option maxRecDepth 10000
namespace Go.Am.Ytlgebaofkolkoaa
open Go Go.Am Go.Proofs
theorem f19 {W : Nat → Prop} {h : Hp} {n s : Nat} {L : List Ver} {I : List Inf} (q : St W h n s L I) (A : App) (mv sv : a9) (a b : Nat) (ha : jN h a b A mv sv) (hb : b ≤ n) (haW : ∀ j, a ≤ j → j < b → ¬ W j)
  (hpn : ∀ v ∈ A.made, 0 ≤ v.pn) (hI : I.length ≤ 900000) (hL : L.length + A.made.length ≤ 900000) (hf : bB h n) :
  Wp (aQ env (aE env) 19 [.ptr s 0, .agg (aX A mv sv)]) h n fun v' h' n' => v' = .int .i64 (HB (eD L I A)) ∧ (∀ j, j < n → j ≠ s → h' j = h j) ∧ St W h' n' s ((eD L I A).getD (L, I)).1 ((eD L I A).getD (L, I)).2 := by
 have sn := q.sn
 refine aW aV2 aL4 ?_
 simp only [ac5, Try.f19, Option.getD_some, List.replicate, Nat.reduceAdd, Nat.reduceSub, gE]
 refine cX (v := .agg (aX A mv sv)) mA rfl hf fun H1 r1 o1 f1 => ?_
 replace r1 : Row H1 n (aX A mv sv) := r1
 have O1 : Old h H1 n := fun j hj => o1 j (by omega)
 have q1 := q.old (n' := n + 1) (by omega) O1
 have a1 : jN H1 a b A mv sv := ha.aO fun j _ w => O1 j (by omega)
 obtain ⟨x, lv, rs, ix, il, sa, sb, sc⟩ := q1
 simp only [fgr, hkr, gE]
 refine dJ (f66 s x lv H1 (n + 1) rs) ?_
 simp only [fgr, gE]
 refine c9 ⟨rfl, ?_⟩
 simp only [gE]
 rw [aZ (m8 r1 ha.b)]
 simp only [hkr, gE]
 refine dC f1 (f67 A mv sv a b H1 (n + 1) a1 (by omega) f1) fun v2 h2 n2 rr2 ww2 hn2 f2 ⟨e2, o2⟩ => ?_
 subst e2
 have k2 : ∀ j, j < n → h2 j = h j := fun j hj => by rw [o2 j (by omega), O1 j hj]
 have r2 : Row h2 n (aX A mv sv) := r1.aO (o2 n (by omega))
 have q2 := q.old (n' := n2) (by omega) (fun j hj => k2 j hj)
 cases hck : lZ A with
 | false =>
  have hno : eD L I A = none := by unfold eD; rw [hck]; rfl
  rw [hno]
  simp only [fgr, bor, bH, Nat.reduceAdd, ↓reduceIte, Int.reduceEq, reduceCtorEq, gE]
  refine ⟨(by (try simp (disch := first | assumption | omega) only [cM, gF]); repeat' (first | rfl | exact (Bool.or_eq_true _ _).mpr (.inr rfl) | refine (Bool.and_eq_true _ _).mpr ⟨?_, ?_⟩)), ?_⟩
  exact ⟨rfl, fun j hj _ => k2 j hj, q2⟩
 | true =>
 obtain ⟨x, lv, rs, ix, il, sa, sb, sc⟩ := q2
 have w1 : IntKind.i64.wrap (((I.length : Nat) : Int) - 1 + 1) = ((I.length : Nat) : Int) := by rw [w64 (by omega) (by omega)]; omega
 simp only [tyr, bor, aR, Nat.reduceAdd, ↓reduceIte, gE]
 rw [aZ (uZ r2)]
 simp only [hkr, Nat.reduceAdd, gE]
 rw [aZ (S6 s x lv I h2 n2 rs il (by omega))]
 simp only [fgr, bor, bZ, bH, Nat.reduceAdd, decide_not, w1, gE]
 by_cases hh : A.bJ = ((I.length : Nat) : Int)
 ·simp only [tyr, aR, hh, gE]
  refine ⟨(by (try simp (disch := first | assumption | omega) only [cM, gF]); repeat' (first | rfl | exact (Bool.or_eq_true _ _).mpr (.inr rfl) | refine (Bool.and_eq_true _ _).mpr ⟨?_, ?_⟩)), ?_⟩
  rw [aH (rs.one (off := 0) rfl sL rfl)]
  simp only [hkr, gE]
  have ixx := ix
  obtain ⟨⟨D0, M0, ixi, ixk, ixt⟩, ixg⟩ := ixx
  refine aU f2 (f41 x L D0 M0 h2 n2 ixi (by omega) f2) fun v3 h3 n3 hn3 f3 ⟨y, M', e3, i3, hM, o3⟩ => ?_
  subst e3
  have y3 : Ixw (fun j => j < n2) W h3 n3 y L := ⟨⟨D0, M', i3, fun j hj => ⟨by omega, fun w => by have := hM j w; omega⟩, fun j hj => ⟨by have := (ixt j hj).1; omega, (ixt j hj).2⟩⟩, ixg⟩
  have rs3 := rs.aO (o3 s (by omega))
  have il3 : IL h3 lv I := il.aO fun j w => o3 j (by have := (sa j w).1; omega)
  simp only [hkr, gE]
  refine aU f3 (f68 s x lv I h3 n3 rs3 il3 (by omega) (fun j w => by have := (sa j w).1; omega) (by omega) f3) fun v4 h4 n4 hn4 f4 ⟨e4, lb, o4⟩ => ?_
  subst e4
  simp only [gE]
  rw [cC gV rfl]
  simp only [cel, gE]
  refine dF (v := .agg (bL (iH I))) gV rfl (bX lb) (eN _) f4 fun H5 r5 o5 f5 => ?_
  replace r5 : Row H5 n4 (bL (iH I)) := r5
  have O35 : Old h3 H5 n3 := fun j hj => by rw [o5 j (by omega), o4 j hj]
  have y5 := y3.tH (n' := n4 + 1) (by omega) O35
  have K5 : ∀ j, j < n → H5 j = h j := fun j hj => by rw [O35 j (by omega), o3 j (by omega), k2 j hj]
  have r25 : Row H5 n (aX A mv sv) := r2.aO (by rw [O35 n (by omega), o3 n (by omega)])
  simp only [fgr, gE]
  rw [aH (m8 r25 ha.b)]
  simp only [tyr, aR, gE]
  rw [aH (Row.one (off := 34) r5 (jE lb 1) ti2 rfl)]
  simp only [tyr, hkr, lenOf, bZ, convert, fV, pG, gE]
  have KK : ∀ h' : Hp, (∀ j, (j < n2 ∨ (n3 ≤ j ∧ j < n4 + 1)) → h' j = H5 j) → ∀ j, j < n → h' j = h j := fun h' w j hj => by rw [w j (.inl (by omega)), K5 j hj]
  refine aU f5 (f69 W (fun j => j < n2 ∨ (n3 ≤ j ∧ j < n4 + 1)) W s y a b A mv sv L L I (mJ (iH I).eZ) H5 (n4 + 1) y5 (fun j w => by omega) (fun h' n' hn' w => q.old (by omega) fun j hj => KK h' w j hj) (fun h' w => ha.aO fun j _ q => KK h' w j (by omega)) (by omega) hpn (fun v hv => by have := (uW hck v hv).1; omega) (by omega) (by omega) hL f5) fun v6 h6 n6 hn6 f6 ⟨k6, hd⟩ => ?_
  have r26 : Row h6 n (aX A mv sv) := r25.aO (k6 n (.inl (by omega)))
  have r56 : Row h6 n4 (bL (iH I)) := r5.aO (k6 n4 (.inr (by omega)))
  have q6 := q.old (n' := n6) (by omega) (KK h6 k6)
  have w8 : ∀ u v : Int, IntKind.i64.wrap (u + v) = qV (u + v) := fun u v => rfl
  rcases hd with ⟨L', t', hd, e6, y6⟩ | ⟨hd, e6⟩
  ·subst e6
   simp only [fgr, gE]
   refine c9 ⟨rfl, ?_⟩
   simp only [tyr, aR, gE]
   rw [aZ (Row.one (off := 35) r56 (jE lb 2) ti2 rfl)]
   simp only [tyr, aR, Nat.reduceAdd, gE]
   rw [aZ (CP r26 ha.b)]
   simp only [tyr, bor, bZ, aR, Nat.reduceAdd, gE]
   rw [aZ (Row.one (off := 36) r56 (jE lb 3) ti2 rfl)]
   simp only [tyr, aR, Nat.reduceAdd, gE]
   rw [aZ (CO r26 ha.b)]
   simp only [fgr, bor, bZ, unOp, bH, Nat.reduceAdd, gt_iff_lt, gE]
   refine ⟨(by (try simp (disch := first | assumption | omega) only [cM, gF]); repeat' (first | rfl | exact (Bool.or_eq_true _ _).mpr (.inr rfl) | refine (Bool.and_eq_true _ _).mpr ⟨?_, ?_⟩)), ?_⟩
   by_cases c1 : 2100000000000000 < t'
   ·have hno : eD L I A = none := by unfold eD vG; rw [hck, decide_eq_true hh, hd]; simp only [Bool.and_self]; rw [decide_eq_true c1]; rfl
    rw [hno]
    simp only [fgr, bH, c1, gE]
    exact ⟨rfl, fun j hj _ => KK h6 k6 j hj, q6⟩
   simp only [bor, bH, gt_iff_lt, c1, gE]
   by_cases c2 : 2100000000000000 < IntKind.i64.wrap ((iH I).dX + A.dX)
   ·have hno : eD L I A = none := by unfold eD vG qV; rw [hck, decide_eq_true hh, hd]; simp only [Bool.and_self]; rw [decide_eq_true c2]; simp only [Bool.or_true, Bool.true_or]
    rw [hno]
    simp only [fgr, bH, c2, gE]
    exact ⟨rfl, fun j hj _ => KK h6 k6 j hj, q6⟩
   simp only [fgr, bor, bH, gt_iff_lt, c2, gE]
   by_cases c3 : 2100000000000000 < IntKind.i64.wrap ((iH I).left + A.left)
   ·have hno : eD L I A = none := by unfold eD vG qV; rw [hck, decide_eq_true hh, hd]; simp only [Bool.and_self]; rw [decide_eq_true c3]; simp only [Bool.or_true]
    rw [hno]
    simp only [fgr, c3, gE]
    exact ⟨rfl, fun j hj _ => KK h6 k6 j hj, q6⟩
   have hyes : eD L I A = some (L', I ++ [lQ I A t']) := by unfold eD vG qV; rw [hck, decide_eq_true hh, hd]; simp only [Bool.and_self]; rw [decide_eq_false c1, decide_eq_false c2, decide_eq_false c3]; rfl
   rw [hyes]
   obtain ⟨x6, lv6, rs6, ix6, il6, sa6, sb6, sc6⟩ := q6
   obtain ⟨et, hs6⟩ := rs6
   simp only [tyr, aR, c3, gE]
   rw [dE (Row.write (off := 0) (v := .ptr y 0) hs6 sL rfl (by show 0 + 1 ≤ 2; omega) rfl)]
   obtain ⟨h7, hh7⟩ : ∃ h7, h7 = upd h6 s (some (.row (.l [.ptr y 0, lv6]) et)) := ⟨_, rfl⟩
   show Ops _ _ _ _ _ _ _ _ (upd h6 s (some (.row (.l [.ptr y 0, lv6]) et))) _
   rw [← hh7]
   have s7 : h7 s = some (.row (.l [.ptr y 0, lv6]) et) := by rw [hh7, aM]
   have o7 : ∀ j, j ≠ s → h7 j = h6 j := fun j hj => by rw [hh7, aK _ _ hj]
   have f7 : bB h7 n6 := by rw [hh7]; exact f6.upd (by omega)
   clear hh7
   have r27 : Row h7 n (aX A mv sv) := r26.aO (o7 n (by omega))
   have r57 : Row h7 n4 (bL (iH I)) := r56.aO (o7 n4 (by omega))
   have il7 : IL h7 lv6 I := il6.aO fun j w => o7 j (fun e => (sa6 j w).2 (by rw [e]; exact sb6))
   simp only [bK, fgr, bQ, aJ]
   refine c9 ⟨rfl, ?_⟩
   simp only [tyr, aR, Nat.reduceAdd, gE]
   rw [aZ (Row.one (off := 1) ⟨et, s7⟩ rfl uE rfl)]
   simp only [hkr, Nat.reduceAdd, gE]
   refine pK f7 (f70 lv6 I h7 (fun _ => none) n6 il7) (f70 lv6 I h7 h7 n6 il7) fun v8 h8 n8 hn8 f8 ⟨e8, eh8, en8⟩ => ?_
   subst e8; subst eh8; subst en8
   simp only [tyr, aR, Nat.reduceAdd, gE]
   rw [aZ (uZ r27)]
   simp only [tyr, aR, Nat.reduceAdd, gE]
   rw [aZ (UF r27 ha.b)]
   simp only [tyr, aR, Nat.reduceAdd, gE]
   rw [aZ (Row.one (off := 33) r57 (jE lb 0) ti3 rfl)]
   simp only [tyr, aR, Nat.reduceAdd, gE]
   rw [aZ (mO r27 ha.b)]
   simp only [tyr, builtin, bor, bZ, aR, Nat.reduceAdd, ha.m.len, gE]
   rw [aZ (uY r27 ha.b)]
   simp only [tyr, builtin, lenOf, bor, bZ, Nat.reduceAdd, ha.s.len, convert, fV, pG, gE]
   have hb61 : build env 61 [(0, .int .i64 A.bJ), (1, .agg (A.block.map u8)), (2, .int .i64 (IntKind.i64.wrap (IntKind.i64.wrap ((iH I).jA + (A.made.length : Nat)) - (A.bN.length : Nat)))), (3, .int .i64 (IntKind.i64.wrap t')), (4, .int .i64 (IntKind.i64.wrap ((iH I).dX + A.dX))), (5, .int .i64 (IntKind.i64.wrap ((iH I).left + A.left)))] = M.pure (.agg (bL (lQ I A t'))) := U3 (i := lQ I A t') ha.b
   rw [hb61]
   simp only [Nat.reduceAdd, aX2 (X := bL (lQ I A t')) (bX (show (lQ I A t').block.length = 32 from ha.b)), gE]
   refine kL gV f7 fun H9 g9 o9 f9 => ?_
   simp only [builtin, Nat.reduceAdd, gE]
   obtain ⟨cells, c1, c2⟩ := il7
   have c1' := c1.aO (h' := H9) fun j w => o9 j (by have := (sa6 j w).1; omega)
   refine dC f9 (z4 (i := uC.i) (k := 1) c1' (nO g9 (bX (show (lQ I A t').block.length = 32 from ha.b))) u57 u57 gV (by omega) (by show 2 * (I.length + 1) * 72 ≤ _; omega) (by omega)) fun v10 h10 n10 rr10 ww10 hn10 f10 ⟨e10, eh10, en10⟩ => ?_
   subst e10; subst en10
   have o10 : ∀ j, j ≠ n8 + 1 → h10 j = H9 j := fun j hj => by rw [eh10, aK _ _ hj]
   have g10 : h10 (n8 + 1) = some (.row (.l (cells ++ bL (lQ I A t'))) 61) := by rw [eh10, aM]
   clear eh10
   have s10 : h10 s = some (.row (.l [.ptr y 0, lv6]) et) := by rw [o10 s (by omega), o9 s (by omega)]; exact s7
   simp only [tyr, aR, Nat.reduceAdd, gE]
   refine kN (Row.write (off := 1) (v := .sl (n8 + 1) 0 (I.length + 1) none 37) s10 uE rfl (by show 1 + 1 ≤ 2; omega) rfl) ?_
   obtain ⟨hZ, hhZ⟩ : ∃ hZ, hZ = upd h10 s (some (.row (.l [.ptr y 0, .sl (n8 + 1) 0 (I.length + 1) none 37]) et)) := ⟨_, rfl⟩
   show Fe _ _ _ _ _ _ _ _ _ _ (upd h10 s (some (.row (.l [.ptr y 0, .sl (n8 + 1) 0 (I.length + 1) none 37]) et))) _
   rw [← hhZ]
   have sZ : Row hZ s [.ptr y 0, .sl (n8 + 1) 0 (I.length + 1) none 37] := ⟨et, by rw [hhZ, aM]⟩
   have oZ : ∀ j, j < n8 → j ≠ s → hZ j = h6 j := fun j h1 h2 => by rw [hhZ, aK _ _ h2, o10 j (by omega), o9 j (by omega), o7 j h2]
   have gZ : hZ (n8 + 1) = some (.row (.l (cells ++ bL (lQ I A t'))) 61) := by rw [hhZ, aK _ _ (by omega)]; exact g10
   clear hhZ
   simp only [fgr, Nat.reduceAdd, gE]
   have q0 : ∀ id, id ∈ [s] → id < n8 ∨ n8 + 1 ≤ id := fun id w => by rw [List.mem_singleton] at w; omega
   have q1 : ∀ id, id ∈ [n] → id < n8 ∨ n8 + 1 ≤ id := fun id w => by rw [List.mem_singleton] at w; omega
   have q2 : ∀ id, id ∈ [n4] → id < n8 ∨ n8 + 1 ≤ id := fun id w => by rw [List.mem_singleton] at w; omega
   have q3 : ∀ id, id ∈ ([] : List Nat) → id < n8 ∨ n8 + 1 ≤ id := fun id w => by cases w
   refine ⟨(by (try simp (disch := first | assumption | omega) only [cM, gF]); repeat' (first | rfl | exact (Bool.or_eq_true _ _).mpr (.inr rfl) | refine (Bool.and_eq_true _ _).mpr ⟨?_, ?_⟩)), ?_⟩
   obtain ⟨⟨D', M1, i6, kk6, tt6⟩, gg6⟩ := y6
   have cl : cells.length = I.length * 37 := c1.rds.length
   simp only [Option.getD_some]
   refine ⟨rfl, fun j h1 h2 => by rw [oZ j (by omega) h2, KK h6 k6 j h1], y, _, sZ, ⟨⟨D', M1, i6.sF (by omega) fun j h1 h2 => oZ j h1 fun e => ?_, fun j w => ?_, fun j w => ?_⟩, gg6⟩, ⟨cells ++ bL (lQ I A t'), ?_, fun j hj => ?_⟩, fun j w => ?_, sb6, fun j w => ?_⟩
   ·subst e
    rcases h2 with h2 | h2
    ·exact (tt6 j sb6).2 h2
    ·exact (kk6 j (.inl (by omega))).2 h2
   ·have := sc6 j w
    refine ⟨by omega, (kk6 j (.inl ?_)).2⟩
    have := sc j w
    omega
   ·have := sc6 j w
    exact ⟨by omega, (tt6 j w).2⟩
   ·rw [List.length_append]
    exact BU gZ (by rw [List.length_append, cl, bX (show (lQ I A t').block.length = 32 from ha.b)]; omega) (fun k w => by cases w)
   ·rw [List.length_append] at hj
    by_cases hlt : j < I.length
    ·rw [List.getElem_append_left hlt, List.drop_append_of_le_length (by omega), List.take_append_of_le_length (by rw [List.length_drop]; omega)]
     exact c2 j hlt
    ·have : j = I.length := by simp at hj; omega
     subst this
     rw [← cl, List.drop_left, List.take_of_length_le (by rw [bX (show (lQ I A t').block.length = 32 from ha.b)]; omega)]
     simp only [List.getElem_append_right (Nat.le_refl _), Nat.sub_self, List.getElem_cons_zero]
     exact ⟨trivial, ha.b⟩
   ·injection w with w
    refine ⟨by omega, fun ww => ?_⟩
    have := sc6 j ww
    omega
   ·have := sc6 j w
    omega
  ·subst e6
   have hno : eD L I A = none := by unfold eD; rw [hck, decide_eq_true hh, hd]; rfl
   rw [hno]
   simp only [fgr, gE]
   refine c9 ⟨rfl, ?_⟩
   simp only [tyr, aR, gE]
   rw [aZ (Row.one (off := 35) r56 (jE lb 2) ti2 rfl)]
   simp only [tyr, aR, Nat.reduceAdd, gE]
   rw [aZ (CP r26 ha.b)]
   simp only [tyr, bor, bZ, aR, Nat.reduceAdd, gE]
   rw [aZ (Row.one (off := 36) r56 (jE lb 3) ti2 rfl)]
   simp only [tyr, aR, Nat.reduceAdd, gE]
   rw [aZ (CO r26 ha.b)]
   simp only [fgr, bor, bZ, unOp, bH, Nat.reduceAdd, gE]
   refine ⟨(by (try simp (disch := first | assumption | omega) only [cM, gF]); repeat' (first | rfl | exact (Bool.or_eq_true _ _).mpr (.inr rfl) | refine (Bool.and_eq_true _ _).mpr ⟨?_, ?_⟩)), ?_⟩
   exact ⟨rfl, fun j hj _ => KK h6 k6 j hj, q6⟩
 ·have hno : eD L I A = none := by unfold eD; rw [hck, decide_eq_false hh]; rfl
  rw [hno]
  simp only [fgr, hh, gE]
  refine ⟨(by (try simp (disch := first | assumption | omega) only [cM, gF]); repeat' (first | rfl | exact (Bool.or_eq_true _ _).mpr (.inr rfl) | refine (Bool.and_eq_true _ _).mpr ⟨?_, ?_⟩)), ?_⟩
  exact ⟨rfl, fun j hj _ => k2 j hj, q.old (by omega) fun j hj => k2 j hj⟩
theorem HW {P S : List Ver} {w : Ver} (r : cP false (P ++ w :: S)) : pos false (P ++ w :: S) w = P.length := by
 have hm : w ∈ P ++ w :: S := List.mem_append_right _ (List.mem_cons_self ..)
 obtain ⟨hp, hw⟩ := nR r (nQ r w) hm
 have hl : P.length < (P ++ w :: S).length := by simp
 have hw2 : (P ++ w :: S)[P.length] = w := by simp
 have e0 : eO w w = 0 := p9.refl w
 rcases Nat.lt_trichotomy (pos false (P ++ w :: S) w) P.length with q | q | q
 ·have := r.at_ hp hl q
  rw [hw, hw2] at this
  have : eO w w < 0 := this
  omega
 ·exact q
 ·have := r.at_ hl hp q
  rw [hw, hw2] at this
  have : eO w w < 0 := this
  omega
theorem PG {P S : List Ver} {w : Ver} (r : cP false (P ++ w :: S)) : kV (P ++ w :: S) w = P ++ S := by
 unfold kV iB
 rw [HW r]
 simp
theorem wG {P S : List Ver} {w v : Ver} (r : cP false (P ++ w :: S)) : nL (P ++ w :: S) w v = P ++ v :: S := by
 unfold nL
 rw [HW r]
 simp
def kP (z : Int) (v : Ver) : Option Ver := if z < v.made then none else if z < v.c8 ∧ 0 < v.c8 then some (fT v 0 z32) else some v
def iC (z : Int) (L : List Ver) : List Ver := L.filterMap (kP z)
theorem PM {L : List Ver} {i : Nat} (h : i < L.length) (z : Int) : iC z (L.take (i + 1)) = iC z (L.take i) ++ (kP z L[i]).toList := by
 unfold iC
 rw [jO h, List.filterMap_append]
 cases e : kP z L[i] <;> simp [e]
theorem IL.pre {h : Hp} {v : a9} {I : List Inf} (l : IL h v I) {k : Nat} (hk : k ≤ I.length) : IL h (jK 0 k v) (I.take k) := by
 obtain ⟨cells, c1, c2⟩ := l
 refine ⟨cells.take (k * 37), ?_, fun j hj => ?_⟩
 ·rw [List.length_take, Nat.min_eq_left hk]
  exact c1.pre hk
 ·rw [List.length_take] at hj
  obtain ⟨a, b⟩ := c2 j (by omega)
  rw [List.getElem_take]
  refine ⟨?_, b⟩
  rw [List.drop_take, List.take_take, Nat.min_eq_left (by omega)]
  exact a
theorem YT (Q : dG) (ks : List Kf) (K T : Nat → Prop) (v : a9) (s y n1 n2 : Nat) (z : Int) (L : List Ver) (h0 : Hp) (hKn : ∀ j, K j → j < n2) (hV : ∀ j, n1 ≤ j → j < n2 → K j) (hl : L.length ≤ 900000)
  (hv : VL h0 n1 n2 v L)
  (hT : ∀ (h : Hp) (n : Nat) (x4 x7 x8 x11 x29 x32 x43 : a9), (∀ j, K j → h j = h0 j) → Ixw K T h n y (iC z L) → n2 ≤ n → bB h n →
   cT env 22 none Q ks (.exit 1) (.ptr s 0 :: .int .i64 z :: a9.aA :: a9.aA :: x4 :: .ptr y 0 :: a9.aA :: x7 :: x8 :: a9.aA :: a9.aA :: x11 :: a9.aA :: a9.aA :: a9.aA :: a9.aA :: a9.aA :: a9.aA :: a9.aA :: a9.aA :: a9.aA :: a9.aA :: a9.aA :: a9.aA :: a9.aA :: a9.aA :: v :: .int .i64 (L.length : Nat) :: .int .i64 (L.length : Nat) :: x29 :: a9.aA :: a9.aA :: x32 :: a9.aA :: a9.aA :: a9.aA :: a9.aA :: a9.aA :: a9.aA :: a9.aA :: a9.aA :: a9.aA :: a9.aA :: x43 :: a9.aA :: a9.aA :: a9.aA :: a9.aA :: a9.aA :: a9.aA :: a9.aA :: a9.aA :: a9.aA :: a9.aA :: a9.aA :: a9.aA :: a9.aA :: a9.aA :: a9.aA :: a9.aA :: a9.aA :: a9.aA :: a9.aA :: a9.aA :: a9.aA :: a9.aA :: a9.aA :: a9.aA :: a9.aA :: a9.aA :: a9.aA :: a9.aA :: a9.aA :: a9.aA :: a9.aA :: []) h n) :
  ∀ (m i : Nat) (h : Hp) (n : Nat) (x4 x7 x8 x11 x29 x32 x43 : a9), i + m = L.length → (∀ j, K j → h j = h0 j) → Ixw K T h n y (iC z (L.take i) ++ L.drop i) → n2 ≤ n → bB h n →
   Run env 22 none Q (.loop G5) ks (.ptr s 0 :: .int .i64 z :: a9.aA :: a9.aA :: x4 :: .ptr y 0 :: a9.aA :: x7 :: x8 :: a9.aA :: a9.aA :: x11 :: a9.aA :: a9.aA :: a9.aA :: a9.aA :: a9.aA :: a9.aA :: a9.aA :: a9.aA :: a9.aA :: a9.aA :: a9.aA :: a9.aA :: a9.aA :: a9.aA :: v :: .int .i64 (L.length : Nat) :: .int .i64 (i : Nat) :: x29 :: a9.aA :: a9.aA :: x32 :: a9.aA :: a9.aA :: a9.aA :: a9.aA :: a9.aA :: a9.aA :: a9.aA :: a9.aA :: a9.aA :: a9.aA :: x43 :: a9.aA :: a9.aA :: a9.aA :: a9.aA :: a9.aA :: a9.aA :: a9.aA :: a9.aA :: a9.aA :: a9.aA :: a9.aA :: a9.aA :: a9.aA :: a9.aA :: a9.aA :: a9.aA :: a9.aA :: a9.aA :: a9.aA :: a9.aA :: a9.aA :: a9.aA :: a9.aA :: a9.aA :: a9.aA :: a9.aA :: a9.aA :: a9.aA :: a9.aA :: a9.aA :: a9.aA :: []) h n := by
 intro m
 induction m with
 | zero =>
  intro i h n x4 x7 x8 x11 x29 x32 x43 hm hk hy hn hf
  have : i = L.length := by omega
  subst this
  rw [List.take_length, List.drop_length, List.append_nil] at hy
  rw [bT]
  have hcc : ¬ (((L.length : Nat) : Int) < ((L.length : Nat) : Int)) := by omega
  simp only [G5, bD, Try.f22, Option.getD_some, fgr, bor, Int.reduceNeg, List.getD_cons_zero, hcc, gE]
  exact hT h n _ _ _ _ _ _ _ hk hy hn hf
 | succ m ih =>
  intro i h n x4 x7 x8 x11 x29 x32 x43 hm hk hy hn hf
  have hv' := hv.aO (h' := h) fun j a b => hk j (hV j a b)
  have hil : i < L.length := by omega
  have hcc : (((i : Nat) : Int) < ((L.length : Nat) : Int)) := by omega
  have w1 : IntKind.i64.wrap (((i : Nat) : Int) + 1) = ((i + 1 : Nat) : Int) := by rw [w64 (by omega) (by omega)]; omega
  obtain ⟨sw, va⟩ := hv'.at_ hil
  have hcs := PM hil z
  have hln : (iC z (L.take i) ++ L.drop i).length ≤ 900000 := by
   have h1 : (iC z (L.take i)).length ≤ (L.take i).length := List.length_filterMap_le _ _
   rw [List.length_append, List.length_drop]
   rw [List.length_take] at h1
   omega
  rw [← List.getElem_cons_drop hil] at hy hln
  generalize L[i] = w at *
  have ry := hy.rL
  have wy : w ∈ iC z (L.take i) ++ w :: L.drop (i + 1) := List.mem_append_right _ (List.mem_cons_self ..)
  rw [bT]
  simp only [G5, bD, Try.f22, Option.getD_some, fgr, bor, Int.reduceNeg, List.getD_cons_zero, hcc, gE]
  rw [aH (hv'.idx hil)]
  simp only [gE]
  rw [aH (va.all n)]
  simp only [gE]
  rw [cC eR rfl]
  simp only [cel, gE]
  have kd := va.s.kind
  refine dF (v := .agg (aN w sw)) eR rfl (bR va.ok.h va.ok.b) (cU kd.2.1) hf fun H1 r1 p1 f1 => ?_
  replace r1 : Row H1 n (aN w sw) := r1
  have O1 : Old h H1 n := fun j hj => p1 j (by omega)
  have k1 : ∀ j, K j → H1 j = h0 j := fun j q => by rw [p1 j (by have := hKn j q; omega)]; exact hk j q
  have y1 := hy.old (n' := n + 1) (by omega) O1
  simp only [tyr, fgr, aR, gE]
  rw [aH (fZ r1 va.ok)]
  by_cases c1 : z < w.made
  ·have ec : kP z w = none := by unfold kP; rw [if_pos c1]
   rw [ec] at hcs
   simp only [Option.toList_none, List.append_nil] at hcs
   simp only [tyr, fgr, bor, aR, gt_iff_lt, c1, gE]
   rw [aH (j5 r1 va.ok)]
   simp only [tyr, aR, gE]
   rw [aH (fZ r1 va.ok)]
   simp only [hkr, gE]
   refine aU f1 (aW4 w.aP w.pn w.made va.ok.h y1 hln f1) fun v6 h6 n6 hn6 f6 ⟨k6, hh⟩ => ?_
   rcases hh with ⟨hno, _⟩ | ⟨w2, hw2, hk2, e6, y6⟩
   ·exact absurd (C3 w) (hno w wy)
   ·subst e6
    have hww : w2 = w := kE ry hw2 wy hk2
    subst hww
    rw [PG ry, ← hcs] at y6
    simp only [fgr, bor, bZ, w1, gE]
    exact ih (i + 1) h6 n6 _ _ _ _ _ _ _ (by omega) (fun j q => by rw [k6 j q]; exact k1 j q) y6 (by omega) f6
  ·simp only [tyr, fgr, bor, aR, gt_iff_lt, c1, gE]
   rw [aH (dN r1 va.ok)]
   by_cases c2 : z < w.c8
   ·simp only [tyr, bor, aR, gt_iff_lt, c2, gE]
    rw [aH (dN r1 va.ok)]
    by_cases c3 : 0 < w.c8
    ·have ec : kP z w = some (fT w 0 z32) := by unfold kP; rw [if_neg c1, if_pos ⟨c2, c3⟩]
     rw [ec] at hcs
     simp only [tyr, fgr, bor, bH, aR, gt_iff_lt, c3, gE]
     rw [aH (j5 r1 va.ok)]
     simp only [tyr, aR, gE]
     rw [aH (fZ r1 va.ok)]
     simp only [hkr, gE]
     refine aU f1 (aW2 w.aP w.pn w.made va.ok.h y1 hln f1) fun v6 h6 n6 hn6 f6 ⟨k6, hh⟩ => ?_
     rcases hh with ⟨hno, _⟩ | ⟨w2, hw2, hk2, h2, e6, y6⟩
     ·have := hno w wy (C3 w)
      omega
     ·subst e6
      have hww : w2 = w := kE ry hw2 wy hk2
      subst hww
      rw [wG ry] at y6
      have e7 : iC z (L.take i) ++ fT w2 0 z32 :: L.drop (i + 1) = iC z (L.take (i + 1)) ++ L.drop (i + 1) := by rw [hcs]; simp
      rw [e7] at y6
      simp only [fgr, bor, bZ, w1, gE]
      exact ih (i + 1) h6 n6 _ _ _ _ _ _ _ (by omega) (fun j q => by rw [k6 j q]; exact k1 j q) y6 (by omega) f6
    ·have ec : kP z w = some w := by unfold kP; rw [if_neg c1, if_neg (fun q => c3 q.2)]
     rw [ec] at hcs
     have e7 : iC z (L.take i) ++ w :: L.drop (i + 1) = iC z (L.take (i + 1)) ++ L.drop (i + 1) := by rw [hcs]; simp
     rw [e7] at y1
     simp only [fgr, bor, bZ, bH, gt_iff_lt, c3, w1, gE]
     exact ih (i + 1) H1 (n + 1) _ _ _ _ _ _ _ (by omega) k1 y1 (by omega) f1
   ·have ec : kP z w = some w := by unfold kP; rw [if_neg c1, if_neg (fun q => c2 q.1)]
    rw [ec] at hcs
    have e7 : iC z (L.take i) ++ w :: L.drop (i + 1) = iC z (L.take (i + 1)) ++ L.drop (i + 1) := by rw [hcs]; simp
    rw [e7] at y1
    simp only [fgr, bor, bZ, bH, gt_iff_lt, c2, w1, gE]
    exact ih (i + 1) H1 (n + 1) _ _ _ _ _ _ _ (by omega) k1 y1 (by omega) f1
theorem f22 {W : Nat → Prop} {h : Hp} {n s : Nat} {L : List Ver} {I : List Inf} (q : St W h n s L I) (z : Int) (hI : I.length ≤ 900000) (hL : L.length ≤ 900000) (hf : bB h n) :
  Wp (aQ env (aE env) 22 [.ptr s 0, .int .i64 z]) h n fun v' h' n' => (∀ j, j < n → j ≠ s → h' j = h j) ∧
   (((z < -1 ∨ ((I.length : Nat) : Int) - 1 < z) ∧ v' = .int .i64 221 ∧ St W h' n' s L I) ∨ (-1 ≤ z ∧ z ≤ ((I.length : Nat) : Int) - 1 ∧ v' = .int .i64 0 ∧ St W h' n' s (iC z L) (I.take (z + 1).toNat))) := by
 have sn := q.sn
 have qq := q
 obtain ⟨x, lv, rs, ix, il, sa, sb, sc⟩ := qq
 refine aW aV0 aL2 ?_
 simp only [ac3, Try.f22, Option.getD_some, List.replicate, fgr, hkr, Nat.reduceAdd, Nat.reduceSub, Int.reduceNeg, gE]
 refine dJ (f66 s x lv h n rs) ?_
 simp only [fgr, bor, Int.reduceNeg, gE]
 by_cases c1 : z < -1
 ·simp only [fgr, bH, Int.reduceNeg, c1, gE]
  exact ⟨fun j _ _ => trivial, .inl ⟨.inl trivial, q⟩⟩
 simp only [hkr, Int.reduceNeg, c1, gE]
 rw [aH (S6 s x lv I h n rs il (by omega))]
 by_cases c2 : ((I.length : Nat) : Int) - 1 < z
 ·simp only [fgr, bor, bH, Int.reduceNeg, gt_iff_lt, c2, gE]
  exact ⟨fun j _ _ => trivial, .inl ⟨.inr trivial, q⟩⟩
 simp only [tyr, fgr, bor, bH, aR, Int.reduceNeg, gt_iff_lt, c2, gE]
 rw [aH (rs.one (off := 0) rfl sL rfl)]
 simp only [hkr, Int.reduceNeg, gE]
 have ixx := ix
 obtain ⟨⟨D0, M0, ixi, ixk, ixt⟩, ixg⟩ := ixx
 refine aU hf (f41 x L D0 M0 h n ixi (by omega) hf) fun v3 h3 n3 hn3 f3 ⟨y, M', e3, i3, hM, o3⟩ => ?_
 subst e3
 have y3 : Ixw (fun j => j < n) W h3 n3 y L := ⟨⟨D0, M', i3, fun j hj => ⟨by omega, fun w => by have := hM j w; omega⟩, fun j hj => ⟨by have := (ixt j hj).1; omega, (ixt j hj).2⟩⟩, ixg⟩
 simp only [fgr, hkr, Int.reduceNeg, gE]
 refine aU f3 (aW6 y3.k hL f3) fun v4 h4 n4 hn4 f4 ⟨l4, o4⟩ => ?_
 have y4 := y3.tH hn4 o4
 simp only [fgr, builtin, Int.reduceNeg, l4.len, gE]
 refine YT _ _ (fun j => j < n ∨ (n3 ≤ j ∧ j < n4)) W v4 s y n3 n4 z L h4 (fun j w => by omega) (fun j a b => .inr ⟨a, b⟩) hL l4 ?_ L.length 0 h4 n4 _ _ _ _ _ _ _ (by omega) (fun j _ => rfl) (by simpa [iC] using y4) (Nat.le_refl _) f4
 intro h5 n5 x4 x7 x8 x11 x29 x32 x43 k5 y5 hn5 f5
 have K5 : ∀ j, j < n → h5 j = h j := fun j hj => by rw [k5 j (.inl hj), o4 j (by omega), o3 j hj]
 have rs5 : Row h5 s [.ptr x 0, lv] := rs.aO (K5 s sn)
 have il5 : IL h5 lv I := il.aO fun j w => K5 j (sa j w).1
 have w1 : IntKind.i64.wrap (z + 1) = ((z + 1).toNat : Int) := by rw [w64 (by omega) (by omega)]; omega
 have hk : (z + 1).toNat ≤ I.length := by omega
 simp only [tyr, aR, Int.reduceNeg, gE]
 rw [aH (rs5.one (off := 1) rfl uE rfl)]
 simp only [opt, bor, bZ, Int.reduceNeg, w1, gE]
 have il5' := il5
 obtain ⟨cells, cc1, cc2⟩ := il5'
 rw [aH (cc1.rds.I9 cc1.ML u57 V7 rfl hk)]
 simp only [hkr, Int.reduceNeg, gE]
 refine aU f5 (f71 (jK 0 (z + 1).toNat lv) (I.take (z + 1).toNat) h5 n5 (il5.pre hk) (by rw [List.length_take]; omega) f5) fun v6 h6 n6 hn6 f6 ⟨l6, i6, o6⟩ => ?_
 obtain ⟨et, hs6⟩ := rs5.aO (o6 s (by omega))
 simp only [tyr, aR, Int.reduceNeg, gE]
 rw [dE (Row.write (off := 0) (v := .ptr y 0) hs6 sL rfl (by show 0 + 1 ≤ 2; omega) rfl)]
 obtain ⟨h7, hh7⟩ : ∃ h7, h7 = upd h6 s (some (.row (.l [.ptr y 0, lv]) et)) := ⟨_, rfl⟩
 show Ops _ _ _ _ _ _ _ _ (upd h6 s (some (.row (.l [.ptr y 0, lv]) et))) _
 rw [← hh7]
 have s7 : h7 s = some (.row (.l [.ptr y 0, lv]) et) := by rw [hh7, aM]
 have o7 : ∀ j, j ≠ s → h7 j = h6 j := fun j hj => by rw [hh7, aK _ _ hj]
 clear hh7
 have k6 := l6.kind
 simp only [tyr, aR, Int.reduceNeg, gE]
 rw [dE (Row.write (off := 1) (v := v6) s7 uE (by rw [k6.1]; rfl) (by show 1 + 1 ≤ 2; omega) (by rw [k6.1]; simp [k6.2.1]))]
 rw [k6.1, show bV [a9.ptr y 0, lv] 1 [v6] = [a9.ptr y 0, v6] from rfl]
 obtain ⟨hZ, hhZ⟩ : ∃ hZ, hZ = upd h7 s (some (.row (.l [.ptr y 0, v6]) et)) := ⟨_, rfl⟩
 rw [← hhZ]
 have sZ : Row hZ s [.ptr y 0, v6] := ⟨et, by rw [hhZ, aM]⟩
 have oZ : ∀ j, j ≠ s → hZ j = h6 j := fun j h2 => by rw [hhZ, aK _ _ h2, o7 j h2]
 clear hhZ
 simp only [fgr, Int.reduceNeg, gE]
 obtain ⟨⟨D', M1, iy, kk6, tt6⟩, gg6⟩ := y5
 refine ⟨fun j h1 h2 => by rw [oZ j h2, o6 j (by omega), K5 j h1], .inr ⟨by omega, by omega, y, _, sZ, ⟨⟨D', M1, iy.sF (by omega) fun j h1 h2 => ?_, fun j w => ?_, fun j w => ?_⟩, gg6⟩, l6.aO fun j w => oZ j ?_, fun j w => ?_, sb, fun j w => ?_⟩⟩
 ·rw [oZ j, o6 j h1]
  intro e
  subst e
  rcases h2 with h2 | h2
  ·exact (tt6 j sb).2 h2
  ·exact (kk6 j (.inl (by omega))).2 h2
 ·have := sc j w
  exact ⟨by omega, (kk6 j (.inl this)).2⟩
 ·have := sc j w
  exact ⟨by omega, (tt6 j w).2⟩
 ·have := i6 j w
  omega
 ·have := i6 j w
  refine ⟨by omega, fun ww => ?_⟩
  have := sc j ww
  omega
 ·have := sc j w
  omega
def z8 (l : List Ver) : Int := l.foldl (fun n v => qV (n + v.value)) 0
theorem WL {l : List Ver} {i : Nat} (h : i < l.length) : z8 (l.take (i + 1)) = qV (z8 (l.take i) + l[i].value) := by
 unfold z8
 rw [jO h, List.foldl_append]; rfl
def zQ (L : List Ver) (I : List Inf) (aI : List UInt8) (z : Int) : Int := match kK I z with
 | some _ => z8 (ofV L aI z)
 | none => 0
theorem YQ (Q : dG) (ks : List Kf) (v : a9) (a b : Nat) (l : List Ver) (h0 : Hp) (hl : l.length ≤ 900000) (hv : VL h0 a b v l)
  (hT : ∀ (h : Hp) (n : Nat) (x0 x1 x2 x9 x12 x20 x31 : a9), Old h0 h b → b ≤ n → bB h n → cT env 60 none Q ks (.exit 0) (x0 :: x1 :: x2 :: a9.aA :: a9.aA :: a9.aA :: .int .i64 0 :: .int .i64 0 :: a9.aA :: x9 :: .int .i64 (z8 l) :: a9.aA :: x12 :: a9.aA :: a9.aA :: a9.aA :: a9.aA :: a9.aA :: a9.aA :: a9.aA :: x20 :: a9.aA :: a9.aA :: a9.aA :: a9.aA :: a9.aA :: a9.aA :: a9.aA :: v :: .int .i64 (l.length : Nat) :: .int .i64 (l.length : Nat) :: x31 :: a9.aA :: a9.aA :: a9.aA :: a9.aA :: a9.aA :: a9.aA :: a9.aA :: a9.aA :: []) h n) :
  ∀ (m i : Nat) (h : Hp) (n : Nat) (x0 x1 x2 x9 x12 x20 x31 : a9), i + m = l.length → Old h0 h b → b ≤ n → bB h n →
   Run env 60 none Q (.loop G0) ks (x0 :: x1 :: x2 :: a9.aA :: a9.aA :: a9.aA :: .int .i64 0 :: .int .i64 0 :: a9.aA :: x9 :: .int .i64 (z8 (l.take i)) :: a9.aA :: x12 :: a9.aA :: a9.aA :: a9.aA :: a9.aA :: a9.aA :: a9.aA :: a9.aA :: x20 :: a9.aA :: a9.aA :: a9.aA :: a9.aA :: a9.aA :: a9.aA :: a9.aA :: v :: .int .i64 (l.length : Nat) :: .int .i64 (i : Nat) :: x31 :: a9.aA :: a9.aA :: a9.aA :: a9.aA :: a9.aA :: a9.aA :: a9.aA :: a9.aA :: []) h n := by
 intro m
 induction m with
 | zero =>
  intro i h n x0 x1 x2 x9 x12 x20 x31 hm ho hn hf
  have : i = l.length := by omega
  subst this
  rw [List.take_length]
  rw [bT]
  have hcc : ¬ (((l.length : Nat) : Int) < ((l.length : Nat) : Int)) := by omega
  simp only [G0, bD, Try.f60, Option.getD_some, fgr, bor, List.getD_cons_zero, hcc, gE]
  exact hT h n _ _ _ _ _ _ _ ho hn hf
 | succ m ih =>
  intro i h n x0 x1 x2 x9 x12 x20 x31 hm ho hn hf
  have hv' := hv.old (Nat.le_refl _) ho
  have hil : i < l.length := by omega
  have hcc : (((i : Nat) : Int) < ((l.length : Nat) : Int)) := by omega
  have w1 : IntKind.i64.wrap (((i : Nat) : Int) + 1) = ((i + 1 : Nat) : Int) := by rw [w64 (by omega) (by omega)]; omega
  obtain ⟨sw, va⟩ := hv'.at_ hil
  have hs := WL hil
  generalize l[i] = w at *
  rw [bT]
  simp only [G0, bD, Try.f60, Option.getD_some, fgr, bor, List.getD_cons_zero, hcc, gE]
  rw [aH (hv'.idx hil)]
  simp only [gE]
  rw [aH (va.all n)]
  simp only [gE]
  rw [cC eR rfl]
  simp only [cel, gE]
  have kd := va.s.kind
  refine dF (v := .agg (aN w sw)) eR rfl (bR va.ok.h va.ok.b) (cU kd.2.1) hf fun H1 r1 p1 f1 => ?_
  replace r1 : Row H1 n (aN w sw) := r1
  simp only [tyr, fgr, aR, gE]
  rw [aH (mU r1 va.ok)]
  have hs' : IntKind.i64.wrap (z8 (l.take i) + w.value) = z8 (l.take (i + 1)) := hs.symm
  simp only [fgr, bor, bZ, w1, hs', gE]
  exact ih (i + 1) H1 (n + 1) _ _ _ _ _ _ _ (by omega) (fun j hj => by rw [p1 j (by omega), ho j hj]) (by omega) f1
theorem f60 {W : Nat → Prop} {h : Hp} {n s : Nat} {L : List Ver} {I : List Inf} (q : St W h n s L I) (sv : a9) (aI : List UInt8) (z : Int) (hb : Bytes h sv aI) (hsn : ∀ j, aT sv = some j → j < n) (hI : I.length ≤ 900000) (hL : L.length ≤ 900000) (hf : bB h n) :
  Wp (aQ env (aE env) 60 [.ptr s 0, sv, .int .i64 z]) h n fun v' h' n' => v' = .tup [.int .i64 (zQ L I aI z), .int .i64 (vT (kK I z))] ∧ Old h h' n := by
 refine aW aT3 aJ5 ?_
 simp only [aa6, Try.f60, Option.getD_some, List.replicate, fgr, hkr, Nat.reduceAdd, Nat.reduceSub, gE]
 refine aU hf (f25 q z (by omega) hf) fun v3 h3 n3 hn3 f3 ⟨e3, ob3, o3⟩ => ?_
 subst e3
 simp only [gE]
 rw [cC gV rfl]
 simp only [cel, gE]
 refine dF (v := .agg (bL ((kK I z).getD gH))) gV rfl (bX ob3) (eN _) f3 fun H4 r4 o4 f4 => ?_
 have O4 : Old h H4 n := fun j hj => by rw [o4 j (by omega), o3 j hj]
 have q4 := q.old (n' := n3 + 1) (by omega) O4
 cases hi : kK I z with
 | none =>
  have hc : zQ L I aI z = 0 := by unfold zQ; rw [hi]
  rw [hc]
  simp only [fgr, bor, Int.reduceEq, vT, gE]
  exact O4
 | some i =>
  have hc : zQ L I aI z = z8 (ofV L aI z) := by unfold zQ; rw [hi]
  rw [hc]
  obtain ⟨x, lv, rs, ix, il, sa, sb, sc⟩ := q4
  simp only [tyr, fgr, bor, aR, vT, gE]
  rw [aH (rs.one (off := 0) rfl sL rfl)]
  simp only [hkr, gE]
  have hb4 : Bytes H4 sv aI := hb.aO fun j w => O4 j (hsn j w)
  refine aU f4 (aW0 sv aI z ix.k hb4 (fun j w => by have := hsn j w; omega) hL f4) fun v5 h5 n5 hn5 f5 ⟨l5, o5⟩ => ?_
  simp only [fgr, builtin, l5.len, gE]
  have hlen : (ofV L aI z).length ≤ 900000 := Nat.le_trans (List.length_filter_le _ _) hL
  refine YQ _ _ v5 (n3 + 1) n5 (ofV L aI z) h5 hlen l5 ?_ (ofV L aI z).length 0 h5 n5 _ _ _ _ _ _ _ (by omega) (Old.refl _ _) (Nat.le_refl _) f5
  intro h6 n6 x0 x1 x2 x9 x12 x20 x31 o6 hn6 f6
  simp only [fgr, gE]
  exact fun j hj => by rw [o6 j (by omega), o5 j (by omega), O4 j hj]
theorem k48 : Try.prog.cellsOf 48 = 65 := by kernel_rfl
theorem k43 : Try.prog.cellsOf 43 = 1 := by kernel_rfl
theorem k44 : Try.prog.cellsOf 44 = 1 := by kernel_rfl
theorem k46 : Try.prog.cellsOf 46 = 37 := by kernel_rfl
theorem Z4 : Try.prog.cellsOf 105 = 40 := by kernel_rfl
theorem UH {vs : List a9} (ha : Arg Try.prog 48 vs) : ∃ s : Spd, vs = eC s ∧ s.Ok ∧ 0 ≤ s.pn := by
 obtain ⟨hl, he⟩ := ha.lH Try.underlying48
 rw [k48] at hl
 have q0 : Arg Try.prog 28 ((vs.drop 0).take (Try.prog.cellsOf 28)) := he 0 _ rfl
 have q1 : Arg Try.prog 25 ((vs.drop 33).take (Try.prog.cellsOf 25)) := he 1 _ rfl
 rw [k28] at q0
 rw [k25] at q1
 obtain ⟨aP, pn, e0, hh, hp⟩ := B2 q0
 obtain ⟨by_, e1, hby⟩ := tY q1
 refine ⟨⟨aP, pn, by_⟩, ?_, ⟨hh, hby⟩, hp⟩
 have c0 := mM vs 0 33
 rw [List.drop_zero] at c0
 rw [List.drop_zero] at e0
 rw [e0, mM vs (0 + 33) 32, e1, List.drop_eq_nil_of_le (show vs.length ≤ 0 + 33 + 32 by omega)] at c0
 rw [c0]
 simp [eC]
structure EZ (a : a9) (vs : List Ver) (xs : List a9) : Prop where
 rd : ∀ h, Rds h 70 a vs.length xs
 id : aT a = none
 len : vs.length ≤ maxLen
 at_ : ∀ j (hj : j < vs.length), ∃ sv, (xs.drop (j * 70)).take 70 = aN vs[j] sv ∧ HE vs[j] sv
theorem ag5 {a : a9} (ha : Arg Try.prog 43 [a]) : ∃ vs xs, EZ a vs xs := by
 rcases ha.qC Try.underlying43 (by rw [k31]; omega) with h | ⟨f, len, h, hl, hx⟩
 ·injection h with h; subst h
  exact ⟨[], [], fun h => .aL, rfl, Nat.zero_le _, fun j hj => by simp at hj⟩
 ·injection h with h
  subst h
  rw [k31] at hx ⊢
  have each : ∀ i, ∃ p : Ver × a9, i < len → cut f (i * 70) 70 = aN p.1 p.2 ∧ HE p.1 p.2 := fun i => by
   by_cases hi : i < len
   ·obtain ⟨v, sv, e, hv⟩ := UG (hx i hi)
    exact ⟨(v, sv), fun _ => ⟨e, hv⟩⟩
   ·exact ⟨(noV, .aL), fun q => absurd q hi⟩
  obtain ⟨b, hb⟩ := Classical.axiomOfChoice each
  refine ⟨(List.range len).map fun i => (b i).1, cut f 0 (len * 70), fun h => ?_, rfl, by simpa using hl, fun j hj => ?_⟩
  ·have := Rds.isl (h := h) (sz := 70) f 0 len (cut f 0 (len * 70)) (by rw [CG]) (fun j hj => by rw [tU])
   simpa using this
  ·simp only [List.length_map, List.length_range] at hj
   simp only [List.getElem_map, List.getElem_range]
   rw [CF _ _ _ _ _ (by omega), Nat.zero_add]
   exact ⟨(b j).2, hb j hj⟩
structure IX (a : a9) (ss : List Spd) (xs : List a9) : Prop where
 rd : ∀ h, Rds h 65 a ss.length xs
 id : aT a = none
 len : ss.length ≤ maxLen
 at_ : ∀ j (hj : j < ss.length), (xs.drop (j * 65)).take 65 = eC ss[j] ∧ ss[j].Ok ∧ 0 ≤ ss[j].pn
theorem ag7 {a : a9} (ha : Arg Try.prog 44 [a]) : ∃ ss xs, IX a ss xs := by
 rcases ha.qC Try.underlying44 (by rw [k48]; omega) with h | ⟨f, len, h, hl, hx⟩
 ·injection h with h; subst h
  exact ⟨[], [], fun h => .aL, rfl, Nat.zero_le _, fun j hj => by simp at hj⟩
 ·injection h with h
  subst h
  rw [k48] at hx ⊢
  have each : ∀ i, ∃ p : Spd, i < len → cut f (i * 65) 65 = eC p ∧ p.Ok ∧ 0 ≤ p.pn := fun i => by
   by_cases hi : i < len
   ·obtain ⟨v, e, hv⟩ := UH (hx i hi)
    exact ⟨v, fun _ => ⟨e, hv⟩⟩
   ·exact ⟨⟨[], 0, []⟩, fun q => absurd q hi⟩
  obtain ⟨b, hb⟩ := Classical.axiomOfChoice each
  refine ⟨(List.range len).map fun i => b i, cut f 0 (len * 65), fun h => ?_, rfl, by simpa using hl, fun j hj => ?_⟩
  ·have := Rds.isl (h := h) (sz := 65) f 0 len (cut f 0 (len * 65)) (by rw [CG]) (fun j hj => by rw [tU])
   simpa using this
  ·simp only [List.length_map, List.length_range] at hj
   simp only [List.getElem_map, List.getElem_range]
   rw [CF _ _ _ _ _ (by omega), Nat.zero_add]
   exact hb j hj
structure sI (A : App) (mv sv : a9) : Prop where
 m : ∃ xs, EZ mv A.made xs
 s : ∃ xs, IX sv A.bN xs
 b : A.block.length = 32
theorem UI {vs : List a9} (ha : Arg Try.prog 46 vs) : ∃ A mv sv, vs = aX A mv sv ∧ sI A mv sv := by
 obtain ⟨hl, he⟩ := ha.lH Try.underlying46
 rw [k46] at hl
 have q0 : Arg Try.prog 3 ((vs.drop 0).take (Try.prog.cellsOf 3)) := he 0 _ rfl
 have q1 : Arg Try.prog 25 ((vs.drop 1).take (Try.prog.cellsOf 25)) := he 1 _ rfl
 have q2 : Arg Try.prog 43 ((vs.drop 33).take (Try.prog.cellsOf 43)) := he 2 _ rfl
 have q3 : Arg Try.prog 44 ((vs.drop 34).take (Try.prog.cellsOf 44)) := he 3 _ rfl
 have q4 : Arg Try.prog 2 ((vs.drop 35).take (Try.prog.cellsOf 2)) := he 4 _ rfl
 have q5 : Arg Try.prog 2 ((vs.drop 36).take (Try.prog.cellsOf 2)) := he 5 _ rfl
 rw [k3] at q0
 rw [k25] at q1
 rw [k43] at q2
 rw [k44] at q3
 rw [k2] at q4 q5
 obtain ⟨bJ, e0, _⟩ := q0.cF Try.underlying3
 obtain ⟨block, e1, hb⟩ := tY q1
 obtain ⟨mv, e2⟩ : ∃ mv, (vs.drop 33).take 1 = [mv] := List.length_eq_one_iff.1 (by simp; omega)
 obtain ⟨sv, e3⟩ : ∃ sv, (vs.drop 34).take 1 = [sv] := List.length_eq_one_iff.1 (by simp; omega)
 rw [e2] at q2
 rw [e3] at q3
 obtain ⟨made, xs, hm⟩ := ag5 q2
 obtain ⟨bN, ys, hs⟩ := ag7 q3
 obtain ⟨dX, e4, _⟩ := q4.cF Try.underlying2
 obtain ⟨left, e5, _⟩ := q5.cF Try.underlying2
 refine ⟨⟨bJ, block, made, bN, dX, left⟩, mv, sv, ?_, ⟨xs, hm⟩, ⟨ys, hs⟩, hb⟩
 have c0 := mM vs 0 1
 rw [List.drop_zero] at c0
 rw [List.drop_zero] at e0
 rw [e0, mM vs (0 + 1) 32, e1, mM vs (0 + 1 + 32) 1, e2, mM vs (0 + 1 + 32 + 1) 1, e3, mM vs (0 + 1 + 32 + 1 + 1) 1, e4, mM vs (0 + 1 + 32 + 1 + 1 + 1) 1, e5, List.drop_eq_nil_of_le (show vs.length ≤ 0 + 1 + 32 + 1 + 1 + 1 + 1 by omega)] at c0
 rw [c0]
 simp [aX]
structure OpS where
 kind : Int
 A : App
 next : Bool
 num : Int
def cO (o : OpS) (mv sv : a9) : List a9 := .int .i64 o.kind :: (aX o.A mv sv ++ [.bool o.next, .int .i64 o.num])
theorem ag8 {vs : List a9} (ha : Arg Try.prog 105 vs) : ∃ o mv sv, vs = cO o mv sv ∧ sI o.A mv sv ∧ (Lit.int .i64 o.num).wf = true := by
 obtain ⟨hl, he⟩ := ha.lH Try.underlying105
 rw [Z4] at hl
 have q0 : Arg Try.prog 3 ((vs.drop 0).take (Try.prog.cellsOf 3)) := he 0 _ rfl
 have q1 : Arg Try.prog 46 ((vs.drop 1).take (Try.prog.cellsOf 46)) := he 1 _ rfl
 have q2 : Arg Try.prog 4 ((vs.drop 38).take (Try.prog.cellsOf 4)) := he 2 _ rfl
 have q3 : Arg Try.prog 3 ((vs.drop 39).take (Try.prog.cellsOf 3)) := he 3 _ rfl
 rw [k3] at q0 q3
 rw [k46] at q1
 rw [k4] at q2
 obtain ⟨kind, e0, _⟩ := q0.cF Try.underlying3
 obtain ⟨A, mv, sv, e1, hA⟩ := UI q1
 obtain ⟨nx, e2⟩ := q2.iJ Try.underlying4
 obtain ⟨num, e3, hw⟩ := q3.cF Try.underlying3
 refine ⟨⟨kind, A, nx, num⟩, mv, sv, ?_, hA, hw⟩
 have c0 := mM vs 0 1
 rw [List.drop_zero] at c0
 rw [List.drop_zero] at e0
 rw [e0, mM vs (0 + 1) 37, e1, mM vs (0 + 1 + 37) 1, e2, mM vs (0 + 1 + 37 + 1) 1, e3, List.drop_eq_nil_of_le (show vs.length ≤ 0 + 1 + 37 + 1 + 1 by omega)] at c0
 rw [c0]
 simp [cO]
structure yY (a : a9) (os : List OpS) (xs : List a9) : Prop where
 rd : ∀ h, Rds h 40 a os.length xs
 id : aT a = none
 len : os.length ≤ maxLen
 at_ : ∀ j (hj : j < os.length), ∃ mv sv, (xs.drop (j * 40)).take 40 = cO os[j] mv sv ∧ sI os[j].A mv sv ∧ (Lit.int .i64 os[j].num).wf = true
theorem ag6 {a : a9} (ha : Arg Try.prog 101 [a]) : ∃ os xs, yY a os xs := by
 rcases ha.qC Try.underlying101 (by rw [Z4]; omega) with h | ⟨f, len, h, hl, hx⟩
 ·injection h with h; subst h
  exact ⟨[], [], fun h => .aL, rfl, Nat.zero_le _, fun j hj => by simp at hj⟩
 ·injection h with h
  subst h
  rw [Z4] at hx ⊢
  have each : ∀ i, ∃ p : OpS × a9 × a9, i < len → cut f (i * 40) 40 = cO p.1 p.2.1 p.2.2 ∧ sI p.1.A p.2.1 p.2.2 ∧ (Lit.int .i64 p.1.num).wf = true := fun i => by
   by_cases hi : i < len
   ·obtain ⟨o, mv, sv, e⟩ := ag8 (hx i hi)
    exact ⟨(o, mv, sv), fun _ => e⟩
   ·exact ⟨(⟨0, ⟨0, [], [], [], 0, 0⟩, false, 0⟩, .aL, .aL), fun q => absurd q hi⟩
  obtain ⟨b, hb⟩ := Classical.axiomOfChoice each
  refine ⟨(List.range len).map fun i => (b i).1, cut f 0 (len * 40), fun h => ?_, rfl, by simpa using hl, fun j hj => ?_⟩
  ·have := Rds.isl (h := h) (sz := 40) f 0 len (cut f 0 (len * 40)) (by rw [CG]) (fun j hj => by rw [tU])
   simpa using this
  ·simp only [List.length_map, List.length_range] at hj
   simp only [List.getElem_map, List.getElem_range]
   rw [CF _ _ _ _ _ (by omega), Nat.zero_add]
   exact ⟨(b j).2.1, (b j).2.2, hb j hj⟩
theorem CX : und env 101 = M.pure (.slice 105) := rfl
theorem KW : sizeOf env 105 = M.pure 40 := rfl
theorem am2 {o : OpS} {mv sv : a9} (hb : o.A.block.length = 32) : (cO o mv sv)[34]? = some mv := by
 unfold cO
 rw [List.getElem?_cons_succ, List.getElem?_append_left (by rw [cD hb]; omega)]
 exact nH hb 0
theorem aB5 {o : OpS} {mv sv : a9} (hb : o.A.block.length = 32) : (cO o mv sv)[35]? = some sv := by
 unfold cO
 rw [List.getElem?_cons_succ, List.getElem?_append_left (by rw [cD hb]; omega)]
 exact nH hb 1
def A6 (v : Ver) : Bool := decide (200 < v.aI.length)
def p8 (o : OpS) : Bool := decide (20 < o.A.made.length) || decide (20 < o.A.bN.length) || o.A.made.any A6
def nZ (os : List OpS) : Bool := decide (30 < os.length) || os.any p8
theorem NY (Q : dG) (ks : List Kf) (a mv sv : a9) (os : List OpS) (xs ys : List a9) (i : Nat) (o : OpS) (h : Hp) (n : Nat) (ha : yY a os xs) (hi : i < os.length) (he : (xs.drop (i * 40)).take 40 = cO o mv sv) (hb : o.A.block.length = 32) (hm : EZ mv o.A.made ys)
  (hq : ∀ (x2 x4 x7 x11 x30 x39 x52 : a9), o.A.made.any A6 = false → cT env 57 none Q ks (.exit 2) (a :: a9.aA :: x2 :: .int .i64 (i : Nat) :: x4 :: a9.aA :: a9.aA :: x7 :: a9.aA :: .int .i64 (os.length : Nat) :: .int .i64 (i : Nat) :: x11 :: a9.aA :: a9.aA :: a9.aA :: a9.aA :: a9.aA :: a9.aA :: a9.aA :: a9.aA :: a9.aA :: a9.aA :: a9.aA :: a9.aA :: a9.aA :: a9.aA :: a9.aA :: a9.aA :: a9.aA :: a9.aA :: x30 :: a9.aA :: a9.aA :: a9.aA :: a9.aA :: a9.aA :: a9.aA :: .int .i64 (o.A.made.length : Nat) :: .int .i64 (o.A.made.length : Nat) :: x39 :: a9.aA :: a9.aA :: a9.aA :: a9.aA :: a9.aA :: a9.aA :: a9.aA :: a9.aA :: a9.aA :: a9.aA :: a9.aA :: a9.aA :: x52 :: a9.aA :: a9.aA :: []) h n)
  (hr : ∀ (x0 x3 x4 x7 x9 x10 x11 x30 x37 x38 x39 x52 : a9), o.A.made.any A6 = true → cT env 57 none Q ks .ret (x0 :: a9.aA :: .int .i64 1 :: x3 :: x4 :: a9.aA :: a9.aA :: x7 :: a9.aA :: x9 :: x10 :: x11 :: a9.aA :: a9.aA :: a9.aA :: a9.aA :: a9.aA :: a9.aA :: a9.aA :: a9.aA :: a9.aA :: a9.aA :: a9.aA :: a9.aA :: a9.aA :: a9.aA :: a9.aA :: a9.aA :: a9.aA :: a9.aA :: x30 :: a9.aA :: a9.aA :: a9.aA :: a9.aA :: a9.aA :: a9.aA :: x37 :: x38 :: x39 :: a9.aA :: a9.aA :: a9.aA :: a9.aA :: a9.aA :: a9.aA :: a9.aA :: a9.aA :: a9.aA :: a9.aA :: a9.aA :: a9.aA :: x52 :: a9.aA :: a9.aA :: []) h n) :
  ∀ (m k : Nat) (x2 x4 x7 x11 x30 x39 x52 : a9), k + m = o.A.made.length → (o.A.made.take k).any A6 = false →
  Run env 57 none Q (.loop G3) ks (a :: a9.aA :: x2 :: .int .i64 (i : Nat) :: x4 :: a9.aA :: a9.aA :: x7 :: a9.aA :: .int .i64 (os.length : Nat) :: .int .i64 (i : Nat) :: x11 :: a9.aA :: a9.aA :: a9.aA :: a9.aA :: a9.aA :: a9.aA :: a9.aA :: a9.aA :: a9.aA :: a9.aA :: a9.aA :: a9.aA :: a9.aA :: a9.aA :: a9.aA :: a9.aA :: a9.aA :: a9.aA :: x30 :: a9.aA :: a9.aA :: a9.aA :: a9.aA :: a9.aA :: a9.aA :: .int .i64 (o.A.made.length : Nat) :: .int .i64 (k : Nat) :: x39 :: a9.aA :: a9.aA :: a9.aA :: a9.aA :: a9.aA :: a9.aA :: a9.aA :: a9.aA :: a9.aA :: a9.aA :: a9.aA :: a9.aA :: x52 :: a9.aA :: a9.aA :: []) h n := by
 have hlen := hm.len
 have hmax : maxLen = 9223372036854775807 := rfl
 intro m
 induction m with
 | zero =>
  intro k x2 x4 x7 x11 x30 x39 x52 hk hs
  have : k = o.A.made.length := by omega
  subst this
  have hc : ¬ ((o.A.made.length : Nat) : Int) < ((o.A.made.length : Nat) : Int) := by omega
  rw [bT]
  simp only [G3, bD, Try.f57, Option.getD_some, fgr, bor, List.getD_cons_zero, List.getD_cons_succ, hc, gE]
  rw [List.take_length] at hs
  exact hq _ _ _ _ _ _ _ hs
 | succ m ih =>
  intro k x2 x4 x7 x11 x30 x39 x52 hk hs
  have hil : k < o.A.made.length := by omega
  have hc : ((k : Nat) : Int) < ((o.A.made.length : Nat) : Int) := by omega
  have hwr : IntKind.i64.wrap (((k : Nat) : Int) + 1) = ((k + 1 : Nat) : Int) := by rw [w64 (by omega) (by omega)]; omega
  have hr0 := ha.rd h
  have m1 := iL hr0 (by omega) (i * 40) 1
  have m2 := iL hr0 (by omega) (i * 40 + 1) 33
  have hx : xs[i * 40 + 1 + 33]? = some mv := by
   rw [show i * 40 + 1 + 33 = i * 40 + 34 by omega, vF he (by omega)]
   exact am2 hb
  obtain ⟨sw, e, hv⟩ := hm.at_ k hil
  have hr1 := hm.rd h
  have m3 := iL hr1 (by omega) (k * 70) 35
  have hy : ys[k * 70 + 35]? = some sw := by
   rw [vF e (by omega)]
   exact kB hv.ok.h 2
  rw [bT]
  simp only [G3, bD, Try.f57, Option.getD_some, fgr, bor, List.getD_cons_zero, List.getD_cons_succ, hc, gE]
  rw [aH (hr0.idx (j := i) CX KW rfl hi)]
  simp only [tyr, m1, m2, gE]
  rw [aH (hr0.load (k := i * 40 + 1 + 33) uF rfl hx)]
  simp only [gE]
  rw [aH (hr1.idx (j := k) u43 V8 rfl hil)]
  simp only [tyr, m3, gE]
  rw [aH (hr1.load (k := k * 70 + 35) vP rfl hy)]
  by_cases hov : 200 < o.A.made[k].aI.length
  ·have hc2 : 200 < ((o.A.made[k].aI.length : Nat) : Int) := by omega
   simp only [fgr, builtin, bor, gt_iff_lt, (hv.s.bytes h).cA t29, hc2, gE]
   exact hr _ _ _ _ _ _ _ _ _ _ _ _ (List.any_eq_true.2 ⟨_, List.getElem_mem hil, decide_eq_true hov⟩)
  ·have hc2 : ¬ 200 < ((o.A.made[k].aI.length : Nat) : Int) := by omega
   simp only [fgr, builtin, bor, bZ, gt_iff_lt, (hv.s.bytes h).cA t29, hc2, hwr, gE]
   refine ih (k + 1) _ _ _ _ _ _ _ (by omega) ?_
   rw [List.take_add_one, List.getElem?_eq_getElem hil, Option.toList_some, List.any_append, hs]
   simp [A6, hov]
theorem NZ (Q : dG) (ks : List Kf) (a : a9) (os : List OpS) (xs : List a9) (h : Hp) (n : Nat) (ha : yY a os xs)
  (hq : ∀ (x2 x3 x4 x7 x11 x30 x37 x38 x39 x52 : a9), os.any p8 = false → cT env 57 none Q ks (.exit 0) (a :: a9.aA :: x2 :: x3 :: x4 :: a9.aA :: a9.aA :: x7 :: a9.aA :: .int .i64 (os.length : Nat) :: .int .i64 (os.length : Nat) :: x11 :: a9.aA :: a9.aA :: a9.aA :: a9.aA :: a9.aA :: a9.aA :: a9.aA :: a9.aA :: a9.aA :: a9.aA :: a9.aA :: a9.aA :: a9.aA :: a9.aA :: a9.aA :: a9.aA :: a9.aA :: a9.aA :: x30 :: a9.aA :: a9.aA :: a9.aA :: a9.aA :: a9.aA :: a9.aA :: x37 :: x38 :: x39 :: a9.aA :: a9.aA :: a9.aA :: a9.aA :: a9.aA :: a9.aA :: a9.aA :: a9.aA :: a9.aA :: a9.aA :: a9.aA :: a9.aA :: x52 :: a9.aA :: a9.aA :: []) h n)
  (hr : ∀ (x0 x3 x4 x7 x9 x10 x11 x30 x37 x38 x39 x52 : a9), os.any p8 = true → cT env 57 none Q ks .ret (x0 :: a9.aA :: .int .i64 1 :: x3 :: x4 :: a9.aA :: a9.aA :: x7 :: a9.aA :: x9 :: x10 :: x11 :: a9.aA :: a9.aA :: a9.aA :: a9.aA :: a9.aA :: a9.aA :: a9.aA :: a9.aA :: a9.aA :: a9.aA :: a9.aA :: a9.aA :: a9.aA :: a9.aA :: a9.aA :: a9.aA :: a9.aA :: a9.aA :: x30 :: a9.aA :: a9.aA :: a9.aA :: a9.aA :: a9.aA :: a9.aA :: x37 :: x38 :: x39 :: a9.aA :: a9.aA :: a9.aA :: a9.aA :: a9.aA :: a9.aA :: a9.aA :: a9.aA :: a9.aA :: a9.aA :: a9.aA :: a9.aA :: x52 :: a9.aA :: a9.aA :: []) h n) :
  ∀ (m i : Nat) (x2 x3 x4 x7 x11 x30 x37 x38 x39 x52 : a9), i + m = os.length → (os.take i).any p8 = false →
  Run env 57 none Q (.loop G4) ks (a :: a9.aA :: x2 :: x3 :: x4 :: a9.aA :: a9.aA :: x7 :: a9.aA :: .int .i64 (os.length : Nat) :: .int .i64 (i : Nat) :: x11 :: a9.aA :: a9.aA :: a9.aA :: a9.aA :: a9.aA :: a9.aA :: a9.aA :: a9.aA :: a9.aA :: a9.aA :: a9.aA :: a9.aA :: a9.aA :: a9.aA :: a9.aA :: a9.aA :: a9.aA :: a9.aA :: x30 :: a9.aA :: a9.aA :: a9.aA :: a9.aA :: a9.aA :: a9.aA :: x37 :: x38 :: x39 :: a9.aA :: a9.aA :: a9.aA :: a9.aA :: a9.aA :: a9.aA :: a9.aA :: a9.aA :: a9.aA :: a9.aA :: a9.aA :: a9.aA :: x52 :: a9.aA :: a9.aA :: []) h n := by
 have hlen := ha.len
 have hmax : maxLen = 9223372036854775807 := rfl
 intro m
 induction m with
 | zero =>
  intro i x2 x3 x4 x7 x11 x30 x37 x38 x39 x52 hi hs
  have : i = os.length := by omega
  subst this
  have hc : ¬ ((os.length : Nat) : Int) < ((os.length : Nat) : Int) := by omega
  rw [bT]
  simp only [G4, bD, Try.f57, Option.getD_some, fgr, bor, List.getD_cons_zero, hc, gE]
  rw [List.take_length] at hs
  exact hq _ _ _ _ _ _ _ _ _ _ hs
 | succ m ih =>
  intro i x2 x3 x4 x7 x11 x30 x37 x38 x39 x52 hi hs
  have hil : i < os.length := by omega
  have hc : ((i : Nat) : Int) < ((os.length : Nat) : Int) := by omega
  have hwr : IntKind.i64.wrap (((i : Nat) : Int) + 1) = ((i + 1 : Nat) : Int) := by rw [w64 (by omega) (by omega)]; omega
  obtain ⟨mv, sv, he, ⟨⟨ys, hm⟩, ⟨zs, hss⟩, hb⟩, _⟩ := ha.at_ i hil
  have hr0 := ha.rd h
  have m1 := iL hr0 (by omega) (i * 40) 1
  have m2 := iL hr0 (by omega) (i * 40 + 1) 33
  have m3 := iL hr0 (by omega) (i * 40 + 1) 34
  have hx : xs[i * 40 + 1 + 33]? = some mv := by
   rw [show i * 40 + 1 + 33 = i * 40 + 34 by omega, vF he (by omega)]
   exact am2 hb
  have hx2 : xs[i * 40 + 1 + 34]? = some sv := by
   rw [show i * 40 + 1 + 34 = i * 40 + 35 by omega, vF he (by omega)]
   exact aB5 hb
  have hov : ∀ b, p8 os[i] = b → (os.take (i + 1)).any p8 = b := fun b q => by
   rw [List.take_add_one, List.getElem?_eq_getElem hil, Option.toList_some, List.any_append, hs]
   simp [q]
  have hmem := List.getElem_mem hil
  have lm := (hm.rd h).cA (E := env) (t := 43) (ts := []) u43
  have ls := (hss.rd h).cA (E := env) (t := 44) (ts := []) u44
  rw [bT]
  simp only [G4, bD, Try.f57, Option.getD_some, fgr, bor, List.getD_cons_zero, hc, gE]
  rw [aH (hr0.idx (j := i) CX KW rfl hil)]
  simp only [tyr, m1, m2, gE]
  rw [aH (hr0.load (k := i * 40 + 1 + 33) uF rfl hx)]
  simp only [builtin, bor, gt_iff_lt, lm, gE]
  by_cases c1 : 20 < os[i].A.made.length
  ·have c1' : 20 < ((os[i].A.made.length : Nat) : Int) := by omega
   simp only [fgr, bH, c1', gE]
   exact hr _ _ _ _ _ _ _ _ _ _ _ _ (List.any_eq_true.2 ⟨_, hmem, by simp [p8, c1]⟩)
  have c1' : ¬ 20 < ((os[i].A.made.length : Nat) : Int) := by omega
  simp only [c1', gE]
  rw [aH (hr0.idx (j := i) CX KW rfl hil)]
  simp only [tyr, m1, m3, gE]
  rw [aH (hr0.load (k := i * 40 + 1 + 34) FB rfl hx2)]
  simp only [fgr, builtin, bor, bH, gt_iff_lt, ls, gE]
  by_cases c2 : 20 < os[i].A.bN.length
  ·have c2' : 20 < ((os[i].A.bN.length : Nat) : Int) := by omega
   simp only [fgr, c2', gE]
   exact hr _ _ _ _ _ _ _ _ _ _ _ _ (List.any_eq_true.2 ⟨_, hmem, by simp [p8, c2]⟩)
  have c2' : ¬ 20 < ((os[i].A.bN.length : Nat) : Int) := by omega
  simp only [c2', gE]
  rw [aH (hr0.idx (j := i) CX KW rfl hil)]
  simp only [tyr, m1, m2, gE]
  rw [aH (hr0.load (k := i * 40 + 1 + 33) uF rfl hx)]
  simp only [fgr, builtin, lm, gE]
  refine NY _ _ a mv sv os xs ys i os[i] h n ha hil he hb hm ?_ ?_ os[i].A.made.length 0 _ _ _ _ _ _ _ (by omega) rfl
  ·intro x2 x4 x7 x11 x30 x39 x52 h0
   simp only [fgr, bor, bZ, hwr, gE]
   exact ih (i + 1) _ _ _ _ _ _ _ _ _ _ (by omega) (hov false (by simp [p8, c1, c2, h0]))
  ·intro x0 x3 x4 x7 x9 x10 x11 x30 x37 x38 x39 x52 h0
   simp only [bK]
   exact hr _ _ _ _ _ _ _ _ _ _ _ _ (List.any_eq_true.2 ⟨_, hmem, by simp [p8, h0]⟩)
theorem f57 (a : a9) (os : List OpS) (xs : List a9) (h : Hp) (n : Nat) (ha : yY a os xs) :
  Wp (aQ env (aE env) 57 [a]) h n fun v' h' n' => v' = .int .i64 (if nZ os then 1 else 0) ∧ h' = h ∧ n' = n := by
 refine aW aT6 aJ8 ?_
 have hr0 := ha.rd h
 simp only [aa9, Try.f57, Option.getD_some, List.replicate, fgr, builtin, bor, Nat.reduceSub, gt_iff_lt, hr0.cA CX, gE]
 by_cases c : 30 < os.length
 ·have c' : 30 < ((os.length : Nat) : Int) := by omega
  simp only [fgr, ↓reduceIte, c', nZ, c, gE]
 ·have c' : ¬ 30 < ((os.length : Nat) : Int) := by omega
  simp only [fgr, builtin, c', hr0.cA CX, gE]
  refine NZ _ _ a os xs h n ha ?_ ?_ os.length 0 _ _ _ _ _ _ _ _ _ _ (by omega) rfl
  ·intro x2 x3 x4 x7 x11 x30 x37 x38 x39 x52 h0
   simp only [fgr, ↓reduceIte, reduceCtorEq, nZ, c, h0, gE]
  ·intro x0 x3 x4 x7 x9 x10 x11 x30 x37 x38 x39 x52 h0
   simp only [bK, nth, ↓reduceIte, Bool.or_true, and_self, nZ, h0]
theorem tI {os : List OpS} (h : nZ os = false) : os.length ≤ 30 ∧ ∀ o ∈ os, o.A.made.length ≤ 20 ∧ o.A.bN.length ≤ 20 ∧ ∀ v ∈ o.A.made, v.aI.length ≤ 200 := by
 unfold nZ at h
 simp only [Bool.or_eq_false_iff, decide_eq_false_iff_not, List.any_eq_false] at h
 refine ⟨by omega, fun o ho => ?_⟩
 have := h.2 o ho
 unfold p8 at this
 simp only [Bool.or_eq_true, decide_eq_true_eq, not_or, List.any_eq_true, not_exists, not_and] at this
 refine ⟨by omega, by omega, fun v hv => ?_⟩
 have := this.2 v hv
 unfold A6 at this
 simp only [decide_eq_true_eq] at this
 omega
theorem f111 (v : a9) (l : List UInt8) (h : Hp) (n : Nat) (hb : Bytes h v l) (hl : l.length ≤ 1000000) (hf : bB h n) : Wp (aQ env (aE env) 111 [v]) h n fun v' h' n' => Bytes h' v' l ∧ (∀ j, aT v' = some j → n ≤ j ∧ j < n') ∧ Old h h' n := by
 refine aW av6 aq7 ?_
 simp only [OW, Try.f111, Option.getD_some, List.replicate, fgr, builtin, Nat.reduceSub, gE]
 refine fE (i := ⟨.int .u8, 1, 1, .int .u8 0⟩) (e := 5) (cnt := 0) (xs := []) .nil hb.rds t29 t29 ti5 (uB l) (by decide) (by show 2 * (0 + l.length) * 1 ≤ _; omega) (by omega) hf ?_
 intro v' h' n' hn hf' ho hid hold
 simp only [fgr, gE]
 rw [List.nil_append] at ho
 refine ⟨ho.rds.bytes (by intro e; subst e; cases ho), fun j hj => ?_, fun j hj => hold j hj (fun e => by cases e)⟩
 rcases hid with q | ⟨q, q2⟩
 ·rw [q] at hj; cases hj
 ·rw [q] at hj; injection hj with hj; omega
theorem B1 {A : App} {mv sv x : a9} (hb : A.block.length = 32) : bV (aX A mv sv) 33 [x] = aX A x sv := by
 have e : aX A mv sv = (.int .i64 A.bJ :: A.block.map u8) ++ ([mv] ++ [sv, .int .i64 A.dX, .int .i64 A.left]) := by simp [aX]
 rw [e, lJ (mid := [mv]) (vs := [x]) (by simp [hb]) rfl]
 simp [aX]
theorem B0 {A : App} {mv sv x : a9} (hb : A.block.length = 32) : bV (aX A mv sv) 34 [x] = aX A mv x := by
 have e : aX A mv sv = (.int .i64 A.bJ :: A.block.map u8 ++ [mv]) ++ ([sv] ++ [.int .i64 A.dX, .int .i64 A.left]) := by simp [aX]
 rw [e, lJ (mid := [sv]) (vs := [x]) (by simp [hb]) rfl]
 simp [aX]
theorem YO (Q : dG) (ks : List Kf) (A : App) (mv sv : a9) (xs : List a9) (hm : EZ mv A.made xs) (hb : A.block.length = 32) (hl : A.made.length ≤ 1000000) (hsl : ∀ v ∈ A.made, v.aI.length ≤ 1000000) (n : Nat) (et0 : TypeId) (H : Hp) (hr : Row H n (aX A mv sv))
  (hT : ∀ (h : Hp) (m : Nat) (acc : a9) (cells : List a9) (x0 x5 x13 : a9), h (n + 1 + 1) = some (.row (.l (aX A acc .aL)) et0) → Lst h 31 70 acc A.made.length cells → Vs h (fun j => n + 1 + 1 + 1 ≤ j ∧ j < m ∧ aT acc ≠ some j) cells A.made → (∀ j, aT acc = some j → n + 1 + 1 + 1 ≤ j) → (∀ j, j < n + 1 + 1 → h j = H j) → n + 1 + 1 + 1 ≤ m → bB h m →
   cT env 96 none Q ks (.exit 0) (x0 :: .ptr n 0 :: .ptr (n + 1) 0 :: .ptr (n + 1 + 1) 0 :: .int .i64 (A.made.length : Nat) :: x5 :: a9.aA :: a9.aA :: a9.aA :: a9.aA :: a9.aA :: a9.aA :: a9.aA :: x13 :: a9.aA :: a9.aA :: a9.aA :: a9.aA :: a9.aA :: a9.aA :: a9.aA :: a9.aA :: a9.aA :: a9.aA :: a9.aA :: a9.aA :: a9.aA :: a9.aA :: a9.aA :: a9.aA :: a9.aA :: a9.aA :: a9.aA :: a9.aA :: a9.aA :: a9.aA :: a9.aA :: a9.aA :: []) h m) :
  ∀ (k i : Nat) (h : Hp) (m : Nat) (acc : a9) (cells : List a9) (x0 x5 x13 : a9), i + k = A.made.length → h (n + 1 + 1) = some (.row (.l (aX A acc .aL)) et0) → Lst h 31 70 acc i cells → Vs h (fun j => n + 1 + 1 + 1 ≤ j ∧ j < m ∧ aT acc ≠ some j) cells (A.made.take i) → (∀ j, aT acc = some j → n + 1 + 1 + 1 ≤ j) → (∀ j, j < n + 1 + 1 → h j = H j) → n + 1 + 1 + 1 ≤ m → bB h m →
   Run env 96 none Q (.loop FW) ks (x0 :: .ptr n 0 :: .ptr (n + 1) 0 :: .ptr (n + 1 + 1) 0 :: .int .i64 (i : Nat) :: x5 :: a9.aA :: a9.aA :: a9.aA :: a9.aA :: a9.aA :: a9.aA :: a9.aA :: x13 :: a9.aA :: a9.aA :: a9.aA :: a9.aA :: a9.aA :: a9.aA :: a9.aA :: a9.aA :: a9.aA :: a9.aA :: a9.aA :: a9.aA :: a9.aA :: a9.aA :: a9.aA :: a9.aA :: a9.aA :: a9.aA :: a9.aA :: a9.aA :: a9.aA :: a9.aA :: a9.aA :: a9.aA :: []) h m := by
 intro k
 induction k with
 | zero =>
  intro i h m acc cells x0 x5 x13 hk h3 la va ia ho hnm hf
  have : i = A.made.length := by omega
  subst this
  rw [List.take_length] at va
  have hc : ¬ ((A.made.length : Nat) : Int) < ((A.made.length : Nat) : Int) := by omega
  have rn := hr.aO (ho n (by omega))
  rw [bT]
  simp only [FW, bD, Try.f96, Option.getD_some, tyr, aR, List.getD_cons_zero, gE]
  rw [aH (mO rn hb)]
  simp only [fgr, builtin, bor, (hm.rd h).cA u43, hc, gE]
  exact hT h m acc cells _ _ _ h3 la va ia ho hnm hf
 | succ k ih =>
  intro i h m acc cells x0 x5 x13 hk h3 la va ia ho hnm hf
  have hil : i < A.made.length := by omega
  have hc : ((i : Nat) : Int) < ((A.made.length : Nat) : Int) := by omega
  have w1 : IntKind.i64.wrap (((i : Nat) : Int) + 1) = ((i + 1 : Nat) : Int) := by rw [w64 (by omega) (by omega)]; omega
  have rn := hr.aO (ho n (by omega))
  obtain ⟨sw, e, hv⟩ := hm.at_ i hil
  have hsv := hsl _ (List.getElem_mem hil)
  have htk : A.made.take (i + 1) = A.made.take i ++ [A.made[i]] := jO hil
  have hlx : xs.length = A.made.length * 70 := (hm.rd h).length
  have hld : ∀ n', Rd (load env 31 (dM (i * 70) mv)) h n' (rid mv) (.agg (aN A.made[i] sw)) := fun n' => by
   have := (hm.rd h).agg (E := env) (n := n') (k := i * 70) eR rfl (by decide) (by show i * 70 + 70 ≤ _; omega)
   have e' : (xs.drop (i * 70)).take 70 = aN A.made[i] sw := e
   exact e' ▸ this
  generalize A.made[i] = v at *
  rw [bT]
  simp only [FW, bD, Try.f96, Option.getD_some, tyr, aR, List.getD_cons_zero, gE]
  rw [aH (mO rn hb)]
  simp only [tyr, fgr, builtin, bor, aR, (hm.rd h).cA u43, hc, gE]
  rw [aH (mO rn hb)]
  simp only [gE]
  rw [aH ((hm.rd h).idx (j := i) u43 V8 rfl hil)]
  simp only [gE]
  rw [aH (hld m)]
  simp only [gE]
  rw [cC eR rfl]
  simp only [cel, gE]
  have kd := (hv.s.bytes h).kind
  refine dF (v := .agg (aN v sw)) eR rfl (bR hv.ok.h hv.ok.b) (cU kd.2.1) hf fun H1 r1 p1 f1 => ?_
  replace r1 : Row H1 m (aN v sw) := r1
  simp only [tyr, fgr, aR, gE]
  rw [aH (j4 r1 hv.ok)]
  simp only [hkr, gE]
  refine aU f1 (f111 sw v.aI H1 (m + 1) (hv.s.bytes H1) hsv f1) fun v2 h2 n2 hn2 f2 ⟨b2, i2, o2⟩ => ?_
  obtain ⟨et, g2⟩ := r1.aO (o2 m (by omega))
  simp only [tyr, aR, gE]
  rw [dE (Row.write (off := 35) (v := v2) g2 vP (by rw [b2.kind.1]; rfl) (by rw [bR hv.ok.h hv.ok.b]; show 35 + 1 ≤ 70; omega) (by rw [b2.kind.1]; simp [b2.kind.2.1]))]
  rw [b2.kind.1, zT hv.ok.h]
  obtain ⟨h3', hh3⟩ : ∃ h3', h3' = upd h2 m (some (.row (.l (aN v v2)) et)) := ⟨_, rfl⟩
  rw [← hh3]
  have r3 : Row h3' m (aN v v2) := ⟨et, by rw [hh3, aM]⟩
  have o3 : ∀ j, j ≠ m → h3' j = h2 j := fun j hj => by rw [hh3, aK _ _ hj]
  have f3 : bB h3' n2 := by rw [hh3]; exact f2.upd (by omega)
  clear hh3
  have oA : ∀ j, j < m → h3' j = h j := fun j hj => by rw [o3 j (by omega), o2 j (by omega), p1 j (by omega)]
  have t3 : h3' (n + 1 + 1) = some (.row (.l (aX A acc .aL)) et0) := (oA _ (by omega)).trans h3
  simp only [tyr, fgr, aR, gE]
  rw [aH (mO (A := A) (mv := acc) (sv := .aL) ⟨et0, t3⟩ hb)]
  simp only [gE]
  rw [aH (fM r3 hv.ok)]
  simp only [U5 (bR hv.ok.h hv.ok.b), gE]
  refine hG eR f3 (f := fun id => a9.sl id 0 1 (some 1) 70) fun H4 g4 o4 f4 => ?_
  simp only [builtin, gE]
  have accl : ∀ j, aT acc = some j → j < m := fun j q => la.dL hf q
  have oB : ∀ j, j < m → H4 j = h j := fun j hj => by rw [o4 j (by omega), oA j hj]
  have la4 := la.aO (h' := H4) fun j q => oB j (accl j q)
  refine fE (i := eQ.i) (e := 31) la4 (nO (cnt := 1) g4 (by rw [bR hv.ok.h hv.ok.b]; rfl)) u43 u43 eR (cU b2.kind.2.1) (by decide) (by show 2 * (i + 1) * 128 ≤ _; omega) (by omega) f4 ?_
  intro acc' h5 n5 hn5 f5 l5 i5 o5
  have i5' : ∀ j, aT acc' = some j → n + 1 + 1 + 1 ≤ j := fun j q => by
   rcases i5 with w | ⟨w, _⟩
   ·rw [w] at q; exact ia j q
   ·rw [w] at q; injection q with q; omega
  have hne : ∀ j, j < n2 + 1 → aT acc ≠ some j → aT acc' ≠ some j := fun j hj hn q => by
   rcases i5 with w | ⟨w, _⟩
   ·rw [w] at q; exact hn q
   ·rw [w] at q; injection q with q; omega
  have t5 : h5 (n + 1 + 1) = some (.row (.l (aX A acc .aL)) et0) := by rw [o5 _ (by omega) (fun q => by have := ia _ q; omega), oB _ (by omega)]; exact h3
  have ka : acc'.cells = [acc'] ∧ bC acc' = true := ⟨l5.rds.kind.1, l5.rds.kind.2.1⟩
  simp only [tyr, aR, gE]
  rw [dE (Row.write (off := 33) (v := acc') t5 uF (by rw [ka.1]; rfl) (by rw [cD hb]; show 33 + 1 ≤ 37; omega) (by rw [ka.1]; simp [ka.2]))]
  rw [ka.1, B1 hb]
  obtain ⟨h6, hh6⟩ : ∃ h6, h6 = upd h5 (n + 1 + 1) (some (.row (.l (aX A acc' .aL)) et0)) := ⟨_, rfl⟩
  rw [← hh6]
  have g6 : h6 (n + 1 + 1) = some (.row (.l (aX A acc' .aL)) et0) := by rw [hh6, aM]
  have o6 : ∀ j, j ≠ n + 1 + 1 → h6 j = h5 j := fun j hj => by rw [hh6, aK _ _ hj]
  have f6 : bB h6 n5 := by rw [hh6]; exact f5.upd (by omega)
  clear hh6
  have an : ∀ j, m ≤ j → aT acc ≠ some j := fun j hj q => by have := accl j q; omega
  have va6 := va.mono (h' := h6) (D' := fun j => n + 1 + 1 + 1 ≤ j ∧ j < n5 ∧ aT acc' ≠ some j) (fun j q => ⟨q.1, by omega, hne j (by omega) q.2.2⟩) (fun j q => by rw [o6 j (by omega), o5 j (by omega) q.2.2, oB j q.2.1])
  have b6 : Bytes h6 v2 v.aI := b2.aO fun j q => by
   have := i2 j q
   rw [o6 j (by omega), o5 j (by omega) (an j (by omega)), o4 j (by omega), o3 j (by omega)]
  have va7 := va6.D8 b6 hv.ok (fun j q => by have := i2 j q; exact ⟨by omega, by omega, hne j (by omega) (an j (by omega))⟩)
  rw [← htk] at va7
  simp only [fgr, bor, bZ, w1, gE]
  exact ih (i + 1) h6 n5 acc' _ _ _ _ (by omega) g6 (l5.aO fun j q => o6 j (by have := i5' j q; omega)) va7 i5' (fun j hj => by rw [o6 j (by omega), o5 j (by omega) (fun q => by have := ia j q; omega), oB j (by omega), ho j hj]) (by omega) f6
def rA : App := ⟨0, z32, [], [], 0, 0⟩
theorem WN {a : a9} {ss : List Spd} {xs : List a9} (h : IX a ss xs) : xs.all bC = true := by
 rw [List.all_eq_true]
 intro c hc
 obtain ⟨k, hk, rfl⟩ := List.mem_iff_getElem.1 hc
 have hl : xs.length = ss.length * 65 := (h.rd (fun _ => none)).length
 have hj : k / 65 < ss.length := by omega
 have e := (h.at_ (k / 65) hj).1
 have hp := vF e (i := k % 65) (by omega)
 rw [show k / 65 * 65 + k % 65 = k by omega, List.getElem?_eq_getElem hk] at hp
 exact List.all_eq_true.1 (rO ss[k / 65]) _ (List.mem_of_getElem? hp.symm)
end Go.Am.Ytlgebaofkolkoaa
set_option linter.unusedSimpArgs false
set_option linter.unusedVariables false
set_option linter.defProp false
set_option maxRecDepth 10000
namespace Go.Am.Ytlgebaofkolkoaa
open Go Go.Am Go.Proofs
theorem f96 (A : App) (mv sv : a9) (h : Hp) (n : Nat) (ha : sI A mv sv) (hl : A.made.length ≤ 1000000) (hl2 : A.bN.length ≤ 1000000) (hsl : ∀ v ∈ A.made, v.aI.length ≤ 1000000) (hf : bB h n) :
  Wp (aQ env (aE env) 96 [.agg (aX A mv sv)]) h n fun v' h' n' => ∃ mv' sv', v' = .agg (aX A mv' sv') ∧ jN h' n n' A mv' sv' ∧ Old h h' n := by
 obtain ⟨⟨xs, hm⟩, ⟨ys, hss⟩, hb⟩ := ha
 have km := (hm.rd h).kind
 have ks := (hss.rd h).kind
 refine aW aQ9 aH1 ?_
 simp only [ZI, Try.f96, Option.getD_some, List.replicate, Nat.reduceSub, gE]
 refine cX (v := .agg (aX A mv sv)) mA rfl hf fun H1 r1 o1 f1 => ?_
 replace r1 : Row H1 n (aX A mv sv) := r1
 simp only [gE]
 rw [cC mA rfl]
 obtain ⟨H2, hH2⟩ : ∃ H2, H2 = upd H1 (n + 1) (some (.row (.l (aX rA .aL .aL)) 46)) := ⟨_, rfl⟩
 have g2 : H2 (n + 1) = some (.row (.l (aX rA .aL .aL)) 46) := by rw [hH2, aM]
 have o2 : ∀ j, j ≠ n + 1 → H2 j = H1 j := fun j hj => by rw [hH2, aK _ _ hj]
 have f2 : bB H2 (n + 1 + 1) := by rw [hH2]; exact f1.new
 show Ops _ _ _ _ _ _ _ _ (upd H1 (n + 1) (some (.row (.l (aX rA .aL .aL)) 46))) _
 rw [← hH2]
 clear hH2
 have r2 := r1.aO (o2 n (by omega))
 simp only [fgr, gE]
 rw [aH (m8 r2 hb)]
 simp only [gE]
 rw [cC mA rfl]
 simp only [cel, gE]
 refine dF (v := .agg (aX A mv sv)) mA rfl (cD hb) (jX km.2.1 ks.2.1) f2 fun H3 r3 o3 f3 => ?_
 obtain ⟨et, g3⟩ : Row H3 (n + 1 + 1) (aX A mv sv) := r3
 simp only [tyr, fgr, aR, gE]
 rw [dE (Row.write (off := 33) (v := .aL) g3 uF rfl (by rw [cD hb]; show 33 + 1 ≤ 37; omega) rfl)]
 rw [show bV (aX A mv sv) 33 (a9.aL).cells = aX A .aL sv from B1 hb]
 obtain ⟨H4, hH4⟩ : ∃ H4, H4 = upd H3 (n + 1 + 1) (some (.row (.l (aX A .aL sv)) et)) := ⟨_, rfl⟩
 rw [← hH4]
 have g4 : H4 (n + 1 + 1) = some (.row (.l (aX A .aL sv)) et) := by rw [hH4, aM]
 have o4 : ∀ j, j ≠ n + 1 + 1 → H4 j = H3 j := fun j hj => by rw [hH4, aK _ _ hj]
 have f4 : bB H4 (n + 1 + 1 + 1) := by rw [hH4]; exact f3.upd (by omega)
 clear hH4
 simp only [tyr, fgr, aR, gE]
 rw [dE (Row.write (off := 34) (v := .aL) g4 FB rfl (by rw [cD hb]; show 34 + 1 ≤ 37; omega) rfl)]
 rw [show bV (aX A .aL sv) 34 (a9.aL).cells = aX A .aL .aL from B0 hb]
 obtain ⟨H5, hH5⟩ : ∃ H5, H5 = upd H4 (n + 1 + 1) (some (.row (.l (aX A .aL .aL)) et)) := ⟨_, rfl⟩
 rw [← hH5]
 have g5 : H5 (n + 1 + 1) = some (.row (.l (aX A .aL .aL)) et) := by rw [hH5, aM]
 have o5 : ∀ j, j ≠ n + 1 + 1 → H5 j = H2 j := fun j hj => by rw [hH5, aK _ _ hj, o4 j hj, o3 j hj]
 have f5 : bB H5 (n + 1 + 1 + 1) := by rw [hH5]; exact f4.upd (by omega)
 clear hH5
 have rn5 : Row H5 n (aX A mv sv) := r2.aO (o5 n (by omega))
 simp only [fgr, gE]
 refine YO _ _ A mv sv xs hm hb hl hsl n et H5 rn5 ?_ A.made.length 0 H5 (n + 1 + 1 + 1) .aL [] _ _ _ (by omega) g5 .nil (Vs.nil _ _) (fun j q => by cases q) (fun j _ => rfl) (Nat.le_refl _) f5
 intro h6 m6 acc cells x0 x5 x13 g6 l6 v6 i6 o6 hn6 f6
 have rn6 : Row h6 n (aX A mv sv) := rn5.aO (o6 n (by omega))
 simp only [tyr, aR, gE]
 rw [aH (uY (A := A) (mv := acc) (sv := .aL) ⟨et, g6⟩ hb)]
 simp only [tyr, aR, gE]
 rw [aH (uY rn6 hb)]
 simp only [builtin, gE]
 refine fE (i := B8.i) (e := 48) (cnt := 0) (xs := []) .nil (hss.rd h6) u44 u44 z6 (WN hss) (by decide) (by show 2 * (0 + A.bN.length) * 68 ≤ _; omega) (by omega) f6 ?_
 intro s7 h7 n7 hn7 f7 l7 i7 o7
 have i7' : ∀ j, aT s7 = some j → m6 ≤ j := fun j q => by
  rcases i7 with w | ⟨w, _⟩
  ·rw [w] at q; cases q
  ·rw [w] at q; injection q with q; omega
 have o7' : ∀ j, j < m6 → h7 j = h6 j := fun j hj => o7 j hj (fun q => by cases q)
 have g7 : h7 (n + 1 + 1) = some (.row (.l (aX A acc .aL)) et) := (o7' _ (by omega)).trans g6
 have k7 : s7.cells = [s7] ∧ bC s7 = true := ⟨l7.rds.kind.1, l7.rds.kind.2.1⟩
 have ka : bC acc = true := l6.rds.kind.2.1
 simp only [tyr, aR, gE]
 rw [dE (Row.write (off := 34) (v := s7) g7 FB (by rw [k7.1]; rfl) (by rw [cD hb]; show 34 + 1 ≤ 37; omega) (by rw [k7.1]; simp [k7.2]))]
 rw [k7.1, B0 hb]
 obtain ⟨h8, hh8⟩ : ∃ h8, h8 = upd h7 (n + 1 + 1) (some (.row (.l (aX A acc s7)) et)) := ⟨_, rfl⟩
 rw [← hh8]
 have g8 : h8 (n + 1 + 1) = some (.row (.l (aX A acc s7)) et) := by rw [hh8, aM]
 have o8 : ∀ j, j ≠ n + 1 + 1 → h8 j = h7 j := fun j hj => by rw [hh8, aK _ _ hj]
 clear hh8
 simp only [fgr, gE]
 rw [aH (m8 (A := A) (mv := acc) (sv := s7) ⟨et, g8⟩ hb)]
 simp only [gE]
 have b8 : h8 (n + 1) = some (.row (.l (aX rA .aL .aL)) 46) := by rw [o8 _ (by omega), o7' _ (by omega), o6 _ (by omega), o5 _ (by omega)]; exact g2
 rw [dE (Row.write (off := 0) (v := .agg (aX A acc s7)) b8 mA (cD hb) (by show 0 + 37 ≤ 37; omega) (jX ka k7.2))]
 rw [eB (by show (aX _ _ _).length = _; rw [cD hb]; rfl)]
 simp only [bK, fgr, bQ, nth, aJ, cel, true_and]
 refine eK (Row.gY (cs := aX A acc s7) ⟨46, aM _ _ _⟩ mA rfl (cD hb)) (aS.2 ?_)
 have oZ : ∀ (b : Option Blk), ∀ j, n + 1 + 1 + 1 ≤ j → upd h8 (n + 1) b j = h7 j := fun b j hj => by rw [aK _ _ (by omega), o8 j (by omega)]
 refine ⟨acc, s7, rfl, ⟨⟨cells, l6.aO fun j q => ?_, v6.mono (fun j q => ⟨by omega, by omega, q.2.2⟩) (fun j q => ?_), fun j q => ?_⟩, ⟨ys, ?_, fun j hj => ?_, fun j q => ?_⟩, hb, hl, hl2⟩, fun j hj => ?_⟩
 ·have := l6.dL f6 q
  rw [oZ _ j (i6 j q), o7' j this]
 ·rw [oZ _ j q.1, o7' j q.2.1]
 ·have := l6.dL f6 q
  exact ⟨by have := i6 j q; omega, by omega⟩
 ·rw [Nat.zero_add, List.nil_append] at l7
  exact l7.aO fun j q => oZ _ j (by have := i7' j q; omega)
 ·exact ⟨(hss.at_ j hj).1, (hss.at_ j hj).2.1⟩
 ·have := l7.dL f7 q
  exact ⟨by have := i7' j q; omega, this⟩
 ·rw [aK _ _ (by omega), o8 j (by omega), o7' j (by omega), o6 j (by omega), o5 j (by omega), o2 j (by omega), o1 j (by omega)]
def atH (z : Int) (v : Ver) : Ver := { v with made := z }
theorem F8 {w : Ver} {sv : a9} (h : w.aP.length = 32) (z : Int) : bV (aN w sv) 33 [.int .i64 z] = aN (atH z w) sv := by
 have e : aN w sv = aV w.aP w.pn ++ ([.int .i64 w.made] ++ ([.int .i64 w.value, sv, .bool w.dH, .int .i64 w.c8] ++ w.by_.map u8)) := by simp [aN, mP]
 rw [e, lJ (mid := [.int .i64 w.made]) (vs := [.int .i64 z]) (bW h) rfl]
 simp [aN, mP, atH]
theorem wX {xs : List a9} {a : Nat} {y : a9} (h : a < xs.length) : bV xs a [y] = xs.set a y := by
 unfold bV
 rw [List.set_eq_take_append_cons_drop, if_pos h]
 simp
theorem VL.made {h : Hp} {n a b : Nat} {v : a9} {vs : List Ver} (l : VL h a b v vs) {i : Nat} (hi : i < vs.length) (z : Int) :
  ∃ rs ws h2, Wr (tT env 3 (dM (i * 70 + 33) v) (.int .i64 z)) h n rs ws undef h2 ∧ VL h2 a b v (vs.modify i (atH z)) ∧ ∀ j, aT v ≠ some j → h2 j = h j := by
 obtain ⟨cells, c1, c2, c3⟩ := l
 obtain ⟨id, cap, cs, rfl, hh, hl, hc, hx⟩ := c1.inv (by omega)
 have hw := Row.write (E := env) (n := n) (off := 0 + (i * 70 + 33)) (v := .int .i64 z) hh ti3 rfl (by show 0 + (i * 70 + 33) + 1 ≤ cs.length; omega) rfl
 have es : bV cs (0 + (i * 70 + 33)) (a9.int .i64 z).cells = cs.set (i * 70 + 33) (.int .i64 z) := by
  rw [Nat.zero_add]
  exact wX (by omega)
 rw [es] at hw
 have hcl : cells.length = vs.length * 70 := c1.rds.length
 refine ⟨_, _, _, hw, ⟨cells.set (i * 70 + 33) (.int .i64 z), ?_, ⟨by rw [List.length_set, List.length_modify]; exact hcl, fun j hj => ?_⟩, c3⟩, fun j q => aK _ _ (fun e => q (by rw [e]; rfl))⟩
 ·rw [List.length_modify]
  refine .sl id _ cap (cs.set (i * 70 + 33) (.int .i64 z)) _ (aM _ _ _) (by rw [List.length_set]; exact hl) (fun k q => by rw [List.length_set]; exact hc k q) ?_
  rw [List.take_set, hx]
 ·rw [List.length_modify] at hj
  obtain ⟨sv, e, bb, o, d⟩ := c2.at_ j hj
  rw [List.getElem_modify]
  have bb' : Bytes (upd h id (some (.row (.l (cs.set (i * 70 + 33) (.int .i64 z))) 31))) sv vs[j].aI := bb.aO fun k q => aK _ _ (fun e => (d k q).2.2 (by rw [e]; rfl))
  by_cases c : i = j
  ·subst c
   rw [if_pos rfl]
   refine ⟨sv, ?_, bb', ⟨o.h, o.b⟩, d⟩
   rw [List.drop_set, if_neg (by omega), List.take_set, e, show i * 70 + 33 - i * 70 = 33 by omega, ← wX (by rw [bR o.h o.b]; omega)]
   exact F8 o.h z
  ·rw [if_neg c]
   refine ⟨sv, ?_, bb', o, d⟩
   rw [← e]
   refine List.ext_getElem (by simp) fun k k1 k2 => ?_
   rw [List.getElem_take, List.getElem_take, List.getElem_drop, List.getElem_drop, List.getElem_set, if_neg]
   rw [List.length_take] at k1
   omega
theorem FR (vs : List Ver) (f : Ver → Ver) {i : Nat} (hi : i < vs.length) : ((vs.take i).map f ++ vs.drop i).modify i f = (vs.take (i + 1)).map f ++ vs.drop (i + 1) := by
 refine List.ext_getElem? fun k => ?_
 rw [List.getElem?_modify]
 have e1 : ((vs.take i).map f).length = i := by rw [List.length_map, List.length_take]; omega
 have e2 : ((vs.take (i + 1)).map f).length = i + 1 := by rw [List.length_map, List.length_take]; omega
 rcases Nat.lt_trichotomy k i with c | c | c
 ·rw [List.getElem?_append_left (by omega), List.getElem?_append_left (by omega), List.getElem?_map, List.getElem?_map, List.getElem?_take_of_lt c, List.getElem?_take_of_lt (by omega)]
  simp only [if_neg (show ¬ i = k by omega)]
  cases vs[k]? <;> rfl
 ·subst c
  rw [List.getElem?_append_right (by omega), List.getElem?_append_left (by omega), e1, Nat.sub_self, List.getElem?_drop, List.getElem?_map, List.getElem?_take_of_lt (by omega)]
  simp only [Nat.add_zero]
  cases vs[k]? <;> simp
 ·rw [List.getElem?_append_right (by omega), List.getElem?_append_right (by omega), e1, e2, List.getElem?_drop, List.getElem?_drop, show i + (k - i) = k by omega, show i + 1 + (k - (i + 1)) = k by omega]
  simp only [if_neg (show ¬ i = k by omega)]
  cases vs[k]? <;> rfl
theorem oY {o : OpS} {mv sv : a9} (hb : o.A.block.length = 32) : (cO o mv sv).length = 40 := by simp [cO, cD hb]
theorem N2 {h : Hp} {n id : Nat} {o : OpS} {mv sv : a9} (hr : Row h id (cO o mv sv)) (hb : o.A.block.length = 32) : Rd (load env 46 (.ptr id 1)) h n [id] (.agg (aX o.A mv sv)) := by
 have := hr.agg (E := env) (n := n) (off := 1) mA rfl (by rw [oY hb]; decide)
 have e : ((cO o mv sv).drop 1).take 37 = aX o.A mv sv := by unfold cO; rw [List.drop_succ_cons, List.drop_zero, List.take_append_of_le_length (by rw [cD hb]; omega), List.take_of_length_le (by rw [cD hb]; omega)]
 exact e ▸ this
theorem am1 {o : OpS} {mv sv : a9} (hb : o.A.block.length = 32) (k : Nat) : (cO o mv sv)[38 + k]? = [a9.bool o.next, .int .i64 o.num][k]? := by
 unfold cO
 rw [show 38 + k = 37 + k + 1 by omega, List.getElem?_cons_succ, List.getElem?_append_right (by rw [cD hb]; omega), cD hb]
 congr 1; omega
theorem JI {h : Hp} {n id : Nat} {o : OpS} {mv sv : a9} (hr : Row h id (cO o mv sv)) (hb : o.A.block.length = 32) : Rd (load env 4 (.ptr id 38)) h n [id] (.bool o.next) := hr.one (am1 hb 0) ti4 rfl
theorem N1 {h : Hp} {n id : Nat} {o : OpS} {mv sv : a9} (hr : Row h id (cO o mv sv)) (hb : o.A.block.length = 32) : Rd (load env 3 (.ptr id 39)) h n [id] (.int .i64 o.num) := hr.one (am1 hb 1) ti3 rfl
theorem JJ {h : Hp} {n id : Nat} {o : OpS} {mv sv : a9} (hr : Row h id (cO o mv sv)) : Rd (load env 3 (.ptr id 0)) h n [id] (.int .i64 o.kind) := hr.one rfl ti3 rfl
theorem N3 {h : Hp} {n id : Nat} {o : OpS} {mv sv : a9} (hr : Row h id (cO o mv sv)) (hb : o.A.block.length = 32) : Rd (load env 105 (.ptr id 0)) h n [id] (.agg (cO o mv sv)) := hr.gY zV rfl (oY hb)
theorem VL.aR {h : Hp} {a b : Nat} {v : a9} {vs : List Ver} (l : VL h a b v vs) {i : Nat} (hi : i < vs.length) (k m : Nat) : Go.Am.aR m (dM k v) = M.pure (dM (k + m) v) := by
 obtain ⟨cells, c1, c2, c3⟩ := l
 exact iL c1.rds (by omega) k m
theorem VL.wide {h : Hp} {a b c d : Nat} {v : a9} {vs : List Ver} (l : VL h a b v vs) (h1 : c ≤ a) (h2 : b ≤ d) : VL h c d v vs := by
 obtain ⟨cells, c1, c2, c3⟩ := l
 exact ⟨cells, c1, c2.mono (fun j q => ⟨by omega, by omega, q.2.2⟩) (fun j q => rfl), fun j q => by have := c3 j q; omega⟩
theorem SL.wide {h : Hp} {a b c d : Nat} {v : a9} {ss : List Spd} (l : SL h a b v ss) (h1 : c ≤ a) (h2 : b ≤ d) : SL h c d v ss := by
 obtain ⟨cells, c1, c2, c3⟩ := l
 exact ⟨cells, c1, c2, fun j q => by have := c3 j q; omega⟩
theorem KZ {h : Hp} {a b c d : Nat} {v w : a9} {vs : List Ver} {ss : List Spd} (l : VL h a b v vs) (k : SL h c d w ss) {j : Nat} (h1 : aT w = some j) : aT v ≠ some j := fun h2 => by
 obtain ⟨cells, c1, c2, c3⟩ := l
 obtain ⟨cells2, d1, d2, d3⟩ := k
 clear c2 d2
 generalize vs.length = m at *
 generalize ss.length = m2 at *
 cases c1 with
 | nil => cases h2
 | sl id cnt cap cells xs hh hl hcc hx =>
  cases d1 with
  | nil => cases h1
  | sl id2 cnt2 cap2 cells2 xs2 hh2 hl2 hcc2 hx2 =>
   injection h1 with h1
   injection h2 with h2
   subst h1
   subst h2
   rw [hh] at hh2
   injection hh2 with q
   injection q with q1 q2
   exact absurd q2 (by decide)
def kO (o : OpS) (tip : Int) : App := if o.next then { o.A with bJ := IntKind.i64.wrap (tip + 1), made := o.A.made.map (atH (IntKind.i64.wrap (tip + 1))) } else o.A
theorem YR (Q : dG) (ks : List Kf) (A : App) (tip : Int) (mv sv : a9) (a b c4 c5 n0 : Nat) (z : Int) (hz : IntKind.i64.wrap (tip + 1) = z) (hb : A.block.length = 32) (hl : A.made.length ≤ 1000000) (hb5 : b ≤ c5) (hbn : b ≤ n0) (h0 : Hp) (r5 : Row h0 c5 (aX A mv sv)) (x2 : a9)
  (hT : ∀ (h : Hp) (n : Nat) (x0 x6 x19 : a9), VL h a b mv (A.made.map (atH z)) → (∀ j, aT mv ≠ some j → h j = h0 j) → n0 ≤ n → bB h n →
   cT env 59 none Q ks (.exit 0) (x0 :: .int .i64 tip :: x2 :: a9.aA :: .ptr c4 0 :: .ptr c5 0 :: x6 :: a9.aA :: a9.aA :: a9.aA :: a9.aA :: .bool true :: a9.aA :: a9.aA :: a9.aA :: a9.aA :: a9.aA :: .int .i64 (A.made.length : Nat) :: .int .i64 (A.made.length : Nat) :: x19 :: a9.aA :: a9.aA :: a9.aA :: a9.aA :: a9.aA :: a9.aA :: a9.aA :: a9.aA :: a9.aA :: a9.aA :: []) h n) :
  ∀ (m i : Nat) (h : Hp) (n : Nat) (x0 x6 x19 : a9), i + m = A.made.length → VL h a b mv ((A.made.take i).map (atH z) ++ A.made.drop i) → (∀ j, aT mv ≠ some j → h j = h0 j) → n0 ≤ n → bB h n →
   Run env 59 none Q (.loop G1) ks (x0 :: .int .i64 tip :: x2 :: a9.aA :: .ptr c4 0 :: .ptr c5 0 :: x6 :: a9.aA :: a9.aA :: a9.aA :: a9.aA :: .bool true :: a9.aA :: a9.aA :: a9.aA :: a9.aA :: a9.aA :: .int .i64 (A.made.length : Nat) :: .int .i64 (i : Nat) :: x19 :: a9.aA :: a9.aA :: a9.aA :: a9.aA :: a9.aA :: a9.aA :: a9.aA :: a9.aA :: a9.aA :: a9.aA :: []) h n := by
 intro m
 induction m with
 | zero =>
  intro i h n x0 x6 x19 hm hv hk hn hf
  have : i = A.made.length := by omega
  subst this
  rw [bT]
  have hcc : ¬ (((A.made.length : Nat) : Int) < ((A.made.length : Nat) : Int)) := by omega
  simp only [G1, bD, Try.f59, Option.getD_some, fgr, bor, List.getD_cons_zero, hcc, gE]
  rw [List.take_length, List.drop_length, List.append_nil] at hv
  exact hT h n _ _ _ hv hk hn hf
 | succ m ih =>
  intro i h n x0 x6 x19 hm hv hk hn hf
  have hil : i < A.made.length := by omega
  have hcc : (((i : Nat) : Int) < ((A.made.length : Nat) : Int)) := by omega
  have w1 : IntKind.i64.wrap (((i : Nat) : Int) + 1) = ((i + 1 : Nat) : Int) := by rw [w64 (by omega) (by omega)]; omega
  have hvl : i < ((A.made.take i).map (atH z) ++ A.made.drop i).length := by simp; omega
  have hid : ∀ j, aT mv = some j → j < b := fun j q => by
   obtain ⟨cells, c1, c2, c3⟩ := hv
   exact (c3 j q).2
  have r : Row h c5 (aX A mv sv) := r5.aO (hk c5 (fun q => by have := hid _ q; omega))
  have m1 := hv.aR hvl (i * 70) 33
  obtain ⟨rs, ws, h2, w, v2, o2⟩ := hv.made (n := n) hvl z
  rw [FR _ _ hil] at v2
  have f2 : bB h2 n := fun j hj => by
   rw [o2 j]
   ·exact hf j hj
   ·intro q
    have := hid _ q
    omega
  rw [bT]
  simp only [G1, bD, Try.f59, Option.getD_some, tyr, fgr, bor, List.getD_cons_zero, hcc, gE]
  simp only [aR, aR, gE]
  rw [aH (mO r hb)]
  simp only [bor, bZ, hz, gE]
  rw [aH (hv.idx hvl)]
  simp only [tyr, m1, gE]
  rw [dE w]
  simp only [fgr, bor, bZ, w1, gE]
  exact ih (i + 1) h2 n _ _ _ (by omega) v2 (fun j q => by rw [o2 j q, hk j q]) hn f2
theorem f59 (o : OpS) (tip : Int) (mv sv : a9) (h : Hp) (n : Nat) (ha : sI o.A mv sv) (hl : o.A.made.length ≤ 1000000) (hl2 : o.A.bN.length ≤ 1000000) (hsl : ∀ v ∈ o.A.made, v.aI.length ≤ 1000000) (hf : bB h n) :
  Wp (aQ env (aE env) 59 [.agg (cO o mv sv), .int .i64 tip]) h n fun v' h' n' => ∃ mv' sv', v' = .agg (aX (kO o tip) mv' sv') ∧ jN h' n n' (kO o tip) mv' sv' ∧ Old h h' n := by
 have hb := ha.b
 refine aW aT4 aJ6 ?_
 simp only [aa7, Try.f59, Option.getD_some, List.replicate, Nat.reduceAdd, Nat.reduceSub, gE]
 refine cX (v := .agg (cO o mv sv)) zV rfl hf fun H1 r1 o1 f1 => ?_
 replace r1 : Row H1 n (cO o mv sv) := r1
 simp only [gE]
 rw [cC mA rfl]
 obtain ⟨H2, hH2⟩ : ∃ H2, H2 = upd H1 (n + 1) (some (.row (.l (aX rA .aL .aL)) 46)) := ⟨_, rfl⟩
 have g2 : H2 (n + 1) = some (.row (.l (aX rA .aL .aL)) 46) := by rw [hH2, aM]
 have o2 : ∀ j, j ≠ n + 1 → H2 j = H1 j := fun j hj => by rw [hH2, aK _ _ hj]
 have f2 : bB H2 (n + 1 + 1) := by rw [hH2]; exact f1.new
 show Ops _ _ _ _ _ _ _ _ (upd H1 (n + 1) (some (.row (.l (aX rA .aL .aL)) 46))) _
 rw [← hH2]
 clear hH2
 have r2 := r1.aO (o2 n (by omega))
 simp only [tyr, fgr, aR, gE]
 rw [aH (N2 r2 hb)]
 simp only [hkr, gE]
 refine aU f2 (f96 o.A mv sv H2 _ ha hl hl2 hsl f2) fun v3 h3 n3 hn3 f3 ⟨mv', sv', e3, a3, k3⟩ => ?_
 subst e3
 have oo3 : ∀ j, j < n → h3 j = h j := fun j hj => by rw [k3 j (by omega), o2 j (by omega), o1 j (by omega)]
 have r3 : Row h3 n (cO o mv sv) := r2.aO (k3 n (by omega))
 have g3 : h3 (n + 1) = some (.row (.l (aX rA .aL .aL)) 46) := (k3 _ (by omega)).trans g2
 have km := a3.m.kind
 have ks := a3.s.kind
 simp only [gE]
 rw [cC mA rfl]
 simp only [cel, gE]
 refine dF (v := .agg (aX o.A mv' sv')) mA rfl (cD hb) (jX km.2.1 ks.2.1) f3 fun H4 r4 p4 f4 => ?_
 replace r4 : Row H4 n3 (aX o.A mv' sv') := r4
 have o4 : ∀ j, j < n3 → H4 j = h3 j := fun j hj => p4 j (by omega)
 have rn4 := r3.aO (o4 n (by omega))
 simp only [tyr, fgr, aR, gE]
 rw [aH (JI rn4 hb)]
 have oo4 : ∀ j, j < n → H4 j = h j := fun j hj => by rw [o4 j (by omega), oo3 j hj]
 have g4 : H4 (n + 1) = some (.row (.l (aX rA .aL .aL)) 46) := (o4 _ (by omega)).trans g3
 have a4 : jN H4 (n + 1 + 1) n3 o.A mv' sv' := a3.aO fun j q1 q2 => o4 j q2
 cases hnx : o.next with
 | false =>
  have ed : kO o tip = o.A := by unfold kO; rw [hnx]; rfl
  rw [ed]
  simp only [fgr, gE]
  rw [aH (m8 r4 hb)]
  simp only [gE]
  rw [dE (Row.write (off := 0) (v := .agg (aX o.A mv' sv')) g4 mA (cD hb) (by show 0 + 37 ≤ 37; omega) (jX km.2.1 ks.2.1))]
  rw [eB (by show (aX _ _ _).length = _; rw [cD hb]; rfl)]
  simp only [bK, fgr, bQ, nth, aJ, cel, true_and]
  refine eK (Row.gY (cs := aX o.A mv' sv') ⟨46, aM _ _ _⟩ mA rfl (cD hb)) (aS.2 ?_)
  have a5 := a4.aO (h' := upd H4 (n + 1) (some (.row (.l (aX o.A mv' sv')) 46))) fun j q1 q2 => aK _ _ (by omega)
  exact ⟨mv', sv', rfl, ⟨VL.wide a5.m (by omega) (by omega), SL.wide a5.s (by omega) (by omega), a5.b, a5.ml, a5.sl⟩, fun j hj => by rw [aK _ _ (by omega), oo4 j hj]⟩
 | true =>
  have ed : kO o tip = { o.A with bJ := IntKind.i64.wrap (tip + 1), made := o.A.made.map (atH (IntKind.i64.wrap (tip + 1))) } := by unfold kO; rw [hnx]; rfl
  rw [ed]
  generalize hz : IntKind.i64.wrap (tip + 1) = z
  obtain ⟨et, g5⟩ := r4
  simp only [tyr, fgr, bor, bZ, aR, hz, gE]
  rw [dE (Row.write (off := 0) (v := .int .i64 z) g5 ti3 rfl (by rw [cD hb]; show 0 + 1 ≤ 37; omega) rfl)]
  have es : bV (aX o.A mv' sv') 0 (a9.int .i64 z).cells = aX { o.A with bJ := z } mv' sv' := rfl
  rw [es]
  obtain ⟨H5, hH5⟩ : ∃ H5, H5 = upd H4 n3 (some (.row (.l (aX { o.A with bJ := z } mv' sv')) et)) := ⟨_, rfl⟩
  have r5 : Row H5 n3 (aX { o.A with bJ := z } mv' sv') := ⟨et, by rw [hH5, aM]⟩
  have o5 : ∀ j, j ≠ n3 → H5 j = H4 j := fun j hj => by rw [hH5, aK _ _ hj]
  have f5 : bB H5 (n3 + 1) := by rw [hH5]; exact f4.upd (by omega)
  rw [← hH5]
  clear hH5
  have a5 := a4.aO (h' := H5) fun j q1 q2 => o5 j (by omega)
  simp only [tyr, fgr, aR, gE]
  rw [aH (mO r5 hb)]
  simp only [fgr, builtin, a5.m.len, gE]
  refine YR _ _ { o.A with bJ := z } tip mv' sv' (n + 1 + 1) n3 (n + 1) n3 (n3 + 1) z hz hb hl (Nat.le_refl _) (by omega) H5 r5 (.ptr n 0) ?_ o.A.made.length 0 H5 (n3 + 1) _ _ _ (Nat.zero_add _) a5.m (fun j _ => rfl) (Nat.le_refl _) f5
  intro h6 n6 x0 x6 x19 v6 k6 hn6 f6
  have hid : ∀ j, aT mv' = some j → n + 1 + 1 ≤ j ∧ j < n3 := fun j q => by
   obtain ⟨cells, c1, c2, c3⟩ := v6
   exact c3 j q
  have r6 : Row h6 n3 (aX { o.A with bJ := z } mv' sv') := r5.aO (k6 n3 fun q => by have := hid _ q; omega)
  have g6 : h6 (n + 1) = some (.row (.l (aX rA .aL .aL)) 46) := by rw [k6 _ (fun q => by have := hid _ q; omega), o5 _ (by omega)]; exact g4
  simp only [gE]
  rw [aH (m8 r6 hb)]
  simp only [gE]
  rw [dE (Row.write (off := 0) (v := .agg (aX { o.A with bJ := z } mv' sv')) g6 mA (cD hb) (by show 0 + 37 ≤ 37; omega) (jX km.2.1 ks.2.1))]
  rw [eB (by show (aX _ _ _).length = _; rw [cD (show ({ o.A with bJ := z } : App).block.length = 32 from hb)]; rfl)]
  simp only [bK, fgr, bQ, nth, aJ, cel, true_and]
  refine eK (Row.gY (cs := aX { o.A with bJ := z } mv' sv') ⟨46, aM _ _ _⟩ mA rfl (cD hb)) (aS.2 ?_)
  have s6 : SL h6 (n + 1 + 1) n3 sv' o.A.bN := by
   obtain ⟨cells, c1, c2, c3⟩ := a5.s
   exact ⟨cells, c1.aO fun j q => k6 j (KZ a5.m a5.s q), c2, c3⟩
  have oZ : ∀ j, j ≠ n + 1 → upd h6 (n + 1) (some (.row (.l (aX { o.A with bJ := z } mv' sv')) 46)) j = h6 j := fun j hj => aK _ _ hj
  refine ⟨mv', sv', rfl, ⟨VL.wide (v6.aO fun j q1 q2 => oZ j (by omega)) (by omega) (by omega), SL.wide (s6.aO fun j q1 q2 => oZ j (by omega)) (by omega) (by omega), hb, by show (o.A.made.map _).length ≤ _; rw [List.length_map]; exact hl, hl2⟩, fun j hj => ?_⟩
  rw [oZ j (by omega), k6 j (fun q => by have := hid _ q; omega), o5 j (by omega), oo4 j hj]
theorem JH {L : List Ver} {v : Ver} (r : cP false L) (h : rH v L = false) : cP false (kW L v) := by
 refine uN r (nQ r v) fun w hw e => ?_
 unfold rH at h
 rw [Bool.or_eq_false_iff, List.any_eq_false] at h
 exact h.2 w hw (decide_eq_true e)
theorem TX {L : List Ver} {v : Ver} {z : Int} (h : z < v.made) : iC z (kW L v) = iC z L := by
 unfold iC kW fB
 rw [List.filterMap_append, List.filterMap_cons]
 have e : kP z v = none := by unfold kP; rw [if_pos h]
 rw [e]
 simp only
 rw [← List.filterMap_append, List.take_append_drop]
theorem TW {L : List Ver} {w v : Ver} {z : Int} (r : cP false L) (hw : w ∈ L) (h : kP z v = kP z w) : iC z (nL L w v) = iC z L := by
 obtain ⟨P, S, rfl⟩ := List.append_of_mem hw
 rw [wG r]
 unfold iC
 rw [List.filterMap_append, List.filterMap_cons, List.filterMap_append, List.filterMap_cons, h]
theorem J7 {L : List Ver} {w : Ver} (r : cP false L) (hw : w ∈ L) (s : Int) (b : List UInt8) : cP false (nL L w (fT w s b)) := by
 obtain ⟨P, S, rfl⟩ := List.append_of_mem hw
 rw [wG r]
 unfold cP at r ⊢
 rw [List.pairwise_append, List.pairwise_cons] at r ⊢
 exact ⟨r.1, ⟨fun a ha => r.2.1.1 a ha, r.2.1.2⟩, fun a ha c hc => by
  rcases List.mem_cons.1 hc with rfl | q
  ·exact r.2.2 a ha w (List.mem_cons_self ..)
  ·exact r.2.2 a ha c (List.mem_cons_of_mem _ q)⟩
theorem uH {L : List Ver} {w v u : Ver} (r : cP false L) (hw : w ∈ L) (h : u ∈ nL L w v) : u = v ∨ (u ∈ L ∧ u ≠ w) := by
 rw [MC r hw] at h
 obtain ⟨x, hx, e⟩ := List.mem_map.1 h
 by_cases c : eO x w = 0
 ·rw [if_pos c] at e
  exact .inl e.symm
 ·rw [if_neg c] at e
  subst e
  exact .inr ⟨hx, fun q => c (by rw [q]; exact p9.refl w)⟩
structure UL (t : Int) (v : Ver) : Prop where
 m0 : 0 ≤ v.made
 m : v.made ≤ t
 s : (v.c8 = 0 ∧ v.by_ = z32) ∨ (0 < v.c8 ∧ v.c8 ≤ t ∧ v.made ≤ v.c8)
 v0 : 0 ≤ v.value
 v1 : v.value ≤ 2100000000000000
theorem UL.up {t u : Int} {v : Ver} (f : UL t v) (h : t ≤ u) : UL u v := ⟨f.m0, by have := f.m; omega, by rcases f.s with q | q; exact .inl q; exact .inr ⟨q.1, by omega, q.2.2⟩, f.v0, f.v1⟩
structure Inv (L : List Ver) (t : Int) : Prop where
 r : cP false L
 f : ∀ v ∈ L, UL t v
 o : ∀ a ∈ L, ∀ b ∈ L, a.aP = b.aP → a.pn = b.pn → a.made < b.made → 0 < a.c8 ∧ a.c8 ≤ b.made
theorem Inv.none : Inv [] (-1) := ⟨List.Pairwise.nil, (fun v hv => nomatch hv), (fun v hv => nomatch hv)⟩
structure Mid (L0 : List Ver) (t : Int) (L : List Ver) : Prop where
 r : cP false L
 e : ∀ v ∈ L, v ∈ L0 ∨ (v.made = t + 1 ∧ v.c8 = 0 ∧ v.by_ = z32 ∧ 0 ≤ v.value ∧ v.value ≤ 2100000000000000 ∧ atV L0 v.aP v.pn t = .none)
theorem UE {L : List Ver} {v a : Ver} {z : Int} (h : atV L v.aP v.pn z = none) (ha : a ∈ L) (h1 : a.aP = v.aP) (h2 : a.pn = v.pn) : cI a z = false := by
 cases c : cI a z with
 | false => rfl
 | true =>
  have := UD ha c
  rw [h1, h2, h] at this
  cases this
theorem Mid.inv {L0 L : List Ver} {t : Int} (m : Mid L0 t L) (i : Inv L0 t) (ht : -1 ≤ t) : Inv L (t + 1) := by
 refine ⟨m.r, fun v hv => ?_, fun a ha b hb h1 h2 h3 => ?_⟩
 ·rcases m.e v hv with q | ⟨q1, q2, q3, q4, q5, q6⟩
  ·exact (i.f v q).up (by omega)
  ·exact ⟨by omega, by omega, .inl ⟨q2, q3⟩, q4, q5⟩
 ·rcases m.e b hb with q | ⟨q1, q2, q3, q4, q5, q6⟩
  ·rcases m.e a ha with p | ⟨p1, p2⟩
   ·exact i.o a p b q h1 h2 h3
   ·have := (i.f b q).m
    omega
  ·rcases m.e a ha with p | ⟨p1, p2⟩
   ·have e := UE q6 p h1 h2
    have f := i.f a p
    have := f.m
    unfold cI at e
    rw [Bool.and_eq_false_iff, Bool.or_eq_false_iff, decide_eq_false_iff_not, decide_eq_false_iff_not, decide_eq_false_iff_not] at e
    rcases f.s with s | s <;> omega
   ·omega
theorem xE {L0 : List Ver} {t : Int} : ∀ (vs L : List Ver) (s : Int) (p : List Ver × Int), (∀ v ∈ vs, mB (t + 1) v = true) → Mid L0 t L → kU L0 t vs L s = some p → Mid L0 t p.1 ∧ ∀ z, z ≤ t → iC z p.1 = iC z L
 | [], L, s, p, hv, m, h => by
  unfold kU at h
  injection h with h
  subst h
  exact ⟨m, fun z _ => rfl⟩
 | v :: vs, L, s, p, hv, m, h => by
  unfold kU at h
  by_cases c : ((atV L0 v.aP v.pn t).isSome || rH v L) = true
  ·rw [if_pos c] at h; cases h
  ·rw [if_neg c] at h
   rw [Bool.not_eq_true, Bool.or_eq_false_iff] at c
   have hf := hv v (List.mem_cons_self ..)
   unfold mB kM at hf
   simp only [Bool.and_eq_true, decide_eq_true_eq] at hf
   obtain ⟨⟨⟨⟨f1, f2⟩, f3⟩, f4⟩, f5⟩ := hf
   have hn : atV L0 v.aP v.pn t = none := by
    cases e : atV L0 v.aP v.pn t with
    | none => rfl
    | some x => rw [e] at c; cases c.1
   obtain ⟨a, b⟩ := xE vs (kW L v) _ p (fun w hw => hv w (List.mem_cons_of_mem _ hw)) ⟨JH m.r c.2, fun w hw => by
    rcases xF.1 hw with rfl | q
    ·exact .inr ⟨f1, f2, f3, f4.1, f4.2, hn⟩
    ·exact m.e w q⟩ h
   exact ⟨a, fun z hz => by rw [b z hz, TX (by omega)]⟩
theorem tP {t : Int} (ht : 0 ≤ t) : ∀ (ps : List Spd) (L : List Ver) (s : Int) (p : List Ver × Int), Inv L t → jM t ps L s = some p → Inv p.1 t ∧ ∀ z, z < t → iC z p.1 = iC z L
 | [], L, s, p, i, h => by
  unfold jM at h
  injection h with h
  subst h
  exact ⟨i, fun z _ => rfl⟩
 | q :: ps, L, s, p, i, h => by
  unfold jM at h
  cases e : atV L q.aP q.pn t with
  | none => rw [e] at h; cases h
  | some w =>
   rw [e] at h
   simp only at h
   by_cases c : (decide (w.c8 = 0) && decide (1 ≤ t) && decide (w.made ≤ t)) = true
   ·rw [if_pos c] at h
    simp only [Bool.and_eq_true, decide_eq_true_eq] at c
    obtain ⟨⟨c1, c2⟩, c3⟩ := c
    obtain ⟨w1, w2, w3, w4⟩ := yV e
    have fw := i.f w w1
    have wb : w.by_ = z32 := by rcases fw.s with s | s; exact s.2; omega
    have i' : Inv (nL L w (fT w t q.by_)) t := by
     refine ⟨J7 i.r w1 _ _, fun v hv => ?_, fun a ha b hb h1 h2 h3 => ?_⟩
     ·rcases sP hv with rfl | g
      ·exact ⟨fw.m0, fw.m, .inr ⟨(show 0 < t by omega), (show t ≤ t by omega), fw.m⟩, fw.v0, fw.v1⟩
      ·exact i.f v g
     ·rcases uH i.r w1 hb with rfl | ⟨b1, b2⟩
      ·rcases uH i.r w1 ha with rfl | ⟨a1, a2⟩
       ·omega
       ·exact i.o a a1 w w1 h1 h2 h3
      ·rcases uH i.r w1 ha with rfl | ⟨a1, a2⟩
       ·have := i.o w w1 b b1 h1 h2 h3
        omega
       ·exact i.o a a1 b b1 h1 h2 h3
    obtain ⟨x, y⟩ := tP ht ps _ _ p i' h
    refine ⟨x, fun z hz => ?_⟩
    rw [y z hz]
    refine TW i.r w1 ?_
    unfold kP
    show (if z < w.made then _ else if z < t ∧ 0 < t then some (fT (fT w t q.by_) 0 z32) else _) = _
    by_cases c4 : z < w.made
    ·rw [if_pos c4, if_pos c4]
    ·rw [if_neg c4, if_neg c4, if_pos ⟨hz, by omega⟩, if_neg (by omega)]
     cases w
     simp only [fT] at *
     rw [c1, wb]
   ·rw [if_neg c] at h; cases h
theorem PL {L : List Ver} {I : List Inf} {A : App} {q : List Ver × List Inf} (i : Inv L (((I.length : Nat) : Int) - 1)) (h : eD L I A = some q) :
  Inv q.1 ((q.2.length : Nat) - 1) ∧ (∀ z, z ≤ ((I.length : Nat) : Int) - 1 → iC z q.1 = iC z L) ∧ ∃ x, q.2 = I ++ [x] ∧ x.bJ = ((I.length : Nat) : Int) := by
 unfold eD at h
 split at h
 ·cases h
 ·rename_i hc
  rw [Bool.and_eq_true, decide_eq_true_eq] at hc
  obtain ⟨hk, hh⟩ := hc
  split at h
  ·cases h
  ·rename_i r hd
   split at h
   ·cases h
   ·injection h with h
    subst h
    unfold tQ at hd
    split at hd
    ·rename_i r1 hp
     have hfit : ∀ v ∈ A.made, mB (((I.length : Nat) : Int) - 1 + 1) v = true := fun v hv => by
      have := (uW hk v hv).2
      rw [hh] at this
      rw [Int.sub_add_cancel]
      exact this
     obtain ⟨m, c⟩ := xE A.made L _ r1 hfit ⟨i.r, fun v hv => .inl hv⟩ hp
     have i1 := m.inv i (by omega)
     rw [Int.sub_add_cancel] at i1
     rw [hh] at hd
     obtain ⟨i2, c2⟩ := tP (by omega) A.bN r1.1 r1.2 r i1 hd
     refine ⟨?_, fun z hz => by rw [c2 z (by omega), c z hz], _, rfl, hh⟩
     rw [List.length_append]
     have : (((I.length + [lQ I A r.2].length : Nat) : Int) - 1) = ((I.length : Nat) : Int) := by simp
     rw [this]
     exact i2
    ·cases hd
theorem qM {z : Int} {v u : Ver} (h : kP z v = some u) : v.made ≤ z ∧ ((u = v ∧ (v.c8 ≤ z ∨ v.c8 ≤ 0)) ∨ (u = fT v 0 z32 ∧ z < v.c8 ∧ 0 < v.c8)) := by
 unfold kP at h
 split at h
 ·cases h
 ·rename_i c
  split at h
  ·rename_i d
   injection h with h
   exact ⟨by omega, .inr ⟨h.symm, d⟩⟩
  ·rename_i d
   injection h with h
   exact ⟨by omega, .inl ⟨h.symm, by omega⟩⟩
theorem pO {z : Int} {v u : Ver} (h : kP z v = some u) : u.aP = v.aP ∧ u.pn = v.pn ∧ u.made = v.made ∧ u.value = v.value ∧ u.aI = v.aI := by
 rcases (qM h).2 with ⟨rfl, _⟩ | ⟨rfl, _⟩ <;> exact ⟨rfl, rfl, rfl, rfl, rfl⟩
theorem TZ {L : List Ver} {t z : Int} (i : Inv L t) (hz : -1 ≤ z) : Inv (iC z L) z := by
 refine ⟨?_, fun u hu => ?_, fun a ha b hb h1 h2 h3 => ?_⟩
 ·unfold cP iC
  rw [List.pairwise_filterMap]
  refine i.r.imp fun {a b} hab x hx y hy => ?_
  obtain ⟨x1, x2, x3, _⟩ := pO hx
  obtain ⟨y1, y2, y3, _⟩ := pO hy
  show orI (CI x.aP x.pn y.aP y.pn) (iY x.made y.made) < 0
  rw [x1, x2, x3, y1, y2, y3]
  exact hab
 ·obtain ⟨v, hv, e⟩ := List.mem_filterMap.1 hu
  obtain ⟨k1, k2, k3, k4, k5⟩ := pO e
  obtain ⟨c1, c2⟩ := qM e
  have f := i.f v hv
  refine ⟨by rw [k3]; exact f.m0, by omega, ?_, by rw [k4]; exact f.v0, by rw [k4]; exact f.v1⟩
  rcases c2 with ⟨rfl, c⟩ | ⟨rfl, c⟩
  ·rcases f.s with s | s
   ·exact .inl s
   ·exact .inr ⟨s.1, by omega, s.2.2⟩
  ·exact .inl ⟨rfl, rfl⟩
 ·obtain ⟨v, hv, e⟩ := List.mem_filterMap.1 ha
  obtain ⟨w, hw, g⟩ := List.mem_filterMap.1 hb
  obtain ⟨k1, k2, k3, k4, k5⟩ := pO e
  obtain ⟨l1, l2, l3, l4, l5⟩ := pO g
  have o := i.o v hv w hw (by rw [← k1, ← l1]; exact h1) (by rw [← k2, ← l2]; exact h2) (by omega)
  obtain ⟨c1, c2⟩ := qM e
  obtain ⟨d1, d2⟩ := qM g
  rcases c2 with ⟨rfl, c⟩ | ⟨rfl, c⟩
  ·omega
  ·omega
def Lev (I : List Inf) : Prop := ∀ (k : Nat) (hk : k < I.length), I[k].bJ = ((k : Nat) : Int)
theorem Lev.none : Lev [] := fun k hk => by simp at hk
theorem Lev.D8 {I : List Inf} {x : Inf} (l : Lev I) (h : x.bJ = ((I.length : Nat) : Int)) : Lev (I ++ [x]) := fun k hk => by
 by_cases c : k < I.length
 ·rw [List.getElem_append_left c]; exact l k c
 ·rw [List.length_append, List.length_singleton] at hk
  have : k = I.length := by omega
  subst this
  simp [h]
theorem Lev.take {I : List Inf} (l : Lev I) (n : Nat) : Lev (I.take n) := fun k hk => by
 rw [List.getElem_take]
 exact l k _
theorem Lev.find {I : List Inf} (l : Lev I) {k : Nat} (hk : k < I.length) : kK I ((k : Nat) : Int) = some I[k] := by
 unfold kK
 rw [List.find?_eq_some_iff_getElem]
 refine ⟨decide_eq_true (l k hk), k, hk, rfl, fun j hj => ?_⟩
 rw [Bool.not_eq_true', decide_eq_false_iff_not, l j (by omega)]
 omega
def lF : List Ver → Int
 | [] => 0
 | v :: l => v.value + lF l
theorem CW : ∀ a b : List Ver, lF (a ++ b) = lF a + lF b
 | [], b => by simp [lF]
 | v :: a, b => by simp only [List.cons_append, lF, CW a b]; omega
theorem B7 : ∀ {l : List Ver}, (∀ v ∈ l, 0 ≤ v.value) → 0 ≤ lF l
 | [], _ => Int.le_refl _
 | v :: l, h => by
  have := h v (List.mem_cons_self ..)
  have := B7 fun w hw => h w (List.mem_cons_of_mem _ hw)
  simp only [lF]; omega
theorem CV : ∀ {l : List Ver} {v : Ver}, (∀ v ∈ l, 0 ≤ v.value) → v ∈ l → v.value ≤ lF l
 | w :: l, v, h, hv => by
  have := h w (List.mem_cons_self ..)
  have := B7 fun u hu => h u (List.mem_cons_of_mem _ hu)
  simp only [lF]
  rcases List.mem_cons.1 hv with rfl | q
  ·omega
  ·have := CV (fun u hu => h u (List.mem_cons_of_mem _ hu)) q; omega
theorem HL : ∀ {l : List Ver}, (∀ v ∈ l, v.value ≤ 2100000000000000) → lF l ≤ 2100000000000000 * (l.length : Nat)
 | [], _ => Int.le_refl _
 | v :: l, h => by
  have := h v (List.mem_cons_self ..)
  have := HL fun w hw => h w (List.mem_cons_of_mem _ hw)
  simp only [lF, List.length_cons]; omega
def atS (k : Int) (L : List Ver) : Int := lF (L.filter fun v => cI v k)
theorem wO (k : Int) (a b : List Ver) : atS k (a ++ b) = atS k a + atS k b := by
 unfold atS
 rw [List.filter_append, CW]
theorem nE (k : Int) (v : Ver) (b : List Ver) : atS k (v :: b) = (if cI v k then v.value else 0) + atS k b := by
 unfold atS
 rw [List.filter_cons]
 split
 ·rfl
 ·rw [Int.zero_add]
theorem IS (k : Int) (L : List Ver) (v : Ver) : atS k (kW L v) = atS k L + if cI v k then v.value else 0 := by
 unfold kW fB
 rw [wO, nE]
 have := wO k (L.take (pos false L v)) (L.drop (pos false L v))
 rw [List.take_append_drop] at this
 omega
theorem IQ {L : List Ver} {w : Ver} (r : cP false L) (hw : w ∈ L) (k : Int) (v : Ver) : atS k (nL L w v) = atS k L - (if cI w k then w.value else 0) + if cI v k then v.value else 0 := by
 obtain ⟨P, S, rfl⟩ := List.append_of_mem hw
 rw [wG r, wO, wO, nE, nE]
 omega
theorem CN {L : List Ver} (f : ∀ v ∈ L, 0 ≤ v.value ∧ v.value ≤ 2100000000000000) (hl : L.length ≤ 2000) (k : Int) : 0 ≤ atS k L ∧ atS k L ≤ 4200000000000000000 := by
 refine ⟨B7 fun v hv => (f v (List.mem_filter.1 hv).1).1, Int.le_trans (HL fun v hv => (f v (List.mem_filter.1 hv).1).2) ?_⟩
 have := List.length_filter_le (fun v => cI v k) L
 omega
def Tot (L : List Ver) (I : List Inf) : Prop := ∀ (k : Nat) (hk : k < I.length), I[k].eZ = atS ((k : Nat) : Int) L ∧ I[k].eZ ≤ 2100000000000000
theorem sK {z : Int} (h0 : 0 ≤ z) (h1 : z ≤ 9223372036854775807) : mJ z = z := by
 unfold mJ
 exact ah6 h0 (by omega)
def Val (L : List Ver) : Prop := ∀ v ∈ L, 0 ≤ v.value ∧ v.value ≤ 2100000000000000
theorem uI {L0 : List Ver} {t : Int} : ∀ (vs L : List Ver) (s : Int) (p : List Ver × Int), kU L0 t vs L s = some p → p.1.length = L.length + vs.length
 | [], L, s, p, h => by
  unfold kU at h
  injection h with h
  subst h
  rfl
 | v :: vs, L, s, p, h => by
  unfold kU at h
  by_cases c : ((atV L0 v.aP v.pn t).isSome || rH v L) = true
  ·rw [if_pos c] at h; cases h
  ·rw [if_neg c] at h
   rw [uI vs _ _ p h, xG, List.length_cons]
   omega
theorem uU {t : Int} : ∀ (ps : List Spd) (L : List Ver) (s : Int) (p : List Ver × Int), jM t ps L s = some p → p.1.length = L.length
 | [], L, s, p, h => by
  unfold jM at h
  injection h with h
  subst h
  rfl
 | q :: ps, L, s, p, h => by
  unfold jM at h
  cases e : atV L q.aP q.pn t with
  | none => rw [e] at h; cases h
  | some w =>
   rw [e] at h
   simp only at h
   by_cases c : (decide (w.c8 = 0) && decide (1 ≤ t) && decide (w.made ≤ t)) = true
   ·rw [if_pos c] at h
    rw [uU ps _ _ p h, wY]
   ·rw [if_neg c] at h; cases h
theorem DH {L0 : List Ver} {t : Int} : ∀ (vs L : List Ver) (s : Int) (p : List Ver × Int), (∀ v ∈ vs, mB (t + 1) v = true) → Val L → L.length + vs.length ≤ 2000 → s = atS (t + 1) L → kU L0 t vs L s = some p →
  (∀ k, k ≤ t → atS k p.1 = atS k L) ∧ p.2 = atS (t + 1) p.1
 | [], L, s, p, hv, hL, hl, hs, h => by
  unfold kU at h
  injection h with h
  subst h
  exact ⟨fun k _ => rfl, hs⟩
 | v :: vs, L, s, p, hv, hL, hl, hs, h => by
  unfold kU at h
  by_cases c : ((atV L0 v.aP v.pn t).isSome || rH v L) = true
  ·rw [if_pos c] at h; cases h
  ·rw [if_neg c] at h
   have hf := hv v (List.mem_cons_self ..)
   unfold mB kM at hf
   simp only [Bool.and_eq_true, decide_eq_true_eq] at hf
   obtain ⟨⟨⟨⟨f1, f2⟩, f3⟩, f4⟩, f5⟩ := hf
   rw [List.length_cons] at hl
   have bd := CN hL (by omega) (t + 1)
   have e1 : mJ v.value = v.value := sK f4.1 (by omega)
   have th : cI v (t + 1) = true := by unfold cI; simp [f1, f2]
   have hs2 : mJ (s + mJ v.value) = atS (t + 1) (kW L v) := by
    rw [e1, IS, if_pos th, ← hs]
    exact sK (by omega) (by omega)
   obtain ⟨a, b⟩ := DH vs (kW L v) _ p (fun w hw => hv w (List.mem_cons_of_mem _ hw)) (fun w hw => by
    rcases xF.1 hw with rfl | q
    ·exact f4
    ·exact hL w q) (by rw [xG]; omega) hs2 h
   refine ⟨fun k hk => ?_, b⟩
   rw [a k hk, IS, if_neg, Int.add_zero]
   unfold cI
   simp; omega
theorem EF {t : Int} : ∀ (ps : List Spd) (L : List Ver) (s : Int) (p : List Ver × Int), Inv L t → Val L → L.length ≤ 2000 → s = atS t L → jM t ps L s = some p →
  (∀ k, k < t → atS k p.1 = atS k L) ∧ p.2 = atS t p.1
 | [], L, s, p, i, hL, hl, hs, h => by
  unfold jM at h
  injection h with h
  subst h
  exact ⟨fun k _ => rfl, hs⟩
 | q :: ps, L, s, p, i, hL, hl, hs, h => by
  have i0 := i
  unfold jM at h
  cases e : atV L q.aP q.pn t with
  | none => rw [e] at h; cases h
  | some w =>
   rw [e] at h
   simp only at h
   by_cases c : (decide (w.c8 = 0) && decide (1 ≤ t) && decide (w.made ≤ t)) = true
   ·have cc := c
    rw [if_pos c] at h
    simp only [Bool.and_eq_true, decide_eq_true_eq] at c
    obtain ⟨⟨c1, c2⟩, c3⟩ := c
    obtain ⟨w1, w2, w3, w4⟩ := yV e
    have i1 : Inv (nL L w (fT w t q.by_)) t := (tP (by omega) [q] L s (nL L w (fT w t q.by_), mJ (s - mJ w.value)) i (by unfold jM; rw [e]; simp only; rw [if_pos cc]; unfold jM; rfl)).1
    have bd := CN hL hl t
    have wv := hL w w1
    have tw : cI w t = true := by unfold cI; simp [c1, c3]
    have te : cI (fT w t q.by_) t = false := by unfold cI fT; simp; omega
    have le : w.value ≤ atS t L := CV (fun v hv => (hL v (List.mem_filter.1 hv).1).1) (List.mem_filter.2 ⟨w1, tw⟩)
    have e1 : mJ w.value = w.value := sK wv.1 (by omega)
    have hs2 : mJ (s - mJ w.value) = atS t (nL L w (fT w t q.by_)) := by
     rw [e1, IQ i.r w1, if_pos tw, te, hs]
     rw [sK (by omega) (by omega)]
     simp
    obtain ⟨a, b⟩ := EF ps _ _ p i1 (fun v hv => by
     rcases sP hv with rfl | g
     ·exact wv
     ·exact hL v g) (by rw [wY]; exact hl) hs2 h
    refine ⟨fun k hk => ?_, b⟩
    rw [a k hk, IQ i.r w1]
    have : cI (fT w t q.by_) k = cI w k := by
     unfold cI fT
     simp only [c1]
     have h1 : decide (k < t) = true := decide_eq_true hk
     simp [h1]
    rw [this]
    show _ - _ + (if cI w k then w.value else 0) = _
    omega
   ·rw [if_neg c] at h; cases h
theorem PJ {L : List Ver} {I : List Inf} {A : App} {q : List Ver × List Inf} (i : Inv L (((I.length : Nat) : Int) - 1)) (tt : Tot L I) (hl : L.length + A.made.length ≤ 2000) (h : eD L I A = some q) : Tot q.1 q.2 := by
 have hL : Val L := fun v hv => ⟨(i.f v hv).v0, (i.f v hv).v1⟩
 unfold eD at h
 split at h
 ·cases h
 ·rename_i hc
  rw [Bool.and_eq_true, decide_eq_true_eq] at hc
  obtain ⟨hk, hh⟩ := hc
  split at h
  ·cases h
  ·rename_i r hd
   split at h
   ·cases h
   ·rename_i hov
    injection h with h
    subst h
    have hst : mJ (iH I).eZ = atS (((I.length : Nat) : Int) - 1 + 1) L := by
     rw [Int.sub_add_cancel]
     by_cases h0 : I.length = 0
     ·have hI : I = [] := List.eq_nil_of_length_eq_zero h0
      have hLn : L = [] := by
       cases L with
       | nil => rfl
       | cons v L =>
        have f := i.f v (List.mem_cons_self ..)
        have := f.m0
        have := f.m
        omega
      rw [hI, hLn]; rfl
     ·have hlt : I.length - 1 < I.length := by omega
      have elast : iH I = I[I.length - 1] := by
       unfold iH
       rw [List.getLast?_eq_getElem?, List.getElem?_eq_getElem hlt]; rfl
      obtain ⟨t1, t2⟩ := tt (I.length - 1) hlt
      have bd := CN hL (by omega) (((I.length - 1 : Nat)) : Int)
      rw [elast, t1, sK bd.1 (by omega)]
      unfold atS
      congr 1
      refine List.filter_congr fun v hv => ?_
      have f := i.f v hv
      have m := f.m
      have s := f.s
      unfold cI
      rw [show decide (v.made ≤ ((I.length - 1 : Nat) : Int)) = true from decide_eq_true (by omega), show decide (v.made ≤ ((I.length : Nat) : Int)) = true from decide_eq_true (by omega)]
      by_cases c : v.c8 = 0
      ·simp [c]
      ·simp only [c, decide_false, Bool.false_or, Bool.true_and]
       rw [decide_eq_false (by omega), decide_eq_false (by omega)]
    unfold tQ at hd
    split at hd
    ·rename_i r1 hp
     have hfit : ∀ v ∈ A.made, mB (((I.length : Nat) : Int) - 1 + 1) v = true := fun v hv => by
      have := (uW hk v hv).2
      rw [hh] at this
      rw [Int.sub_add_cancel]
      exact this
     obtain ⟨a1, a2⟩ := DH A.made L _ r1 hfit hL (by omega) hst hp
     obtain ⟨m, _⟩ := xE A.made L _ r1 hfit ⟨i.r, fun v hv => .inl hv⟩ hp
     have i1 := m.inv i (by omega)
     rw [Int.sub_add_cancel] at i1 a2
     rw [hh] at hd
     have hL1 : Val r1.1 := fun v hv => ⟨(i1.f v hv).v0, (i1.f v hv).v1⟩
     have hl1 : r1.1.length ≤ 2000 := by rw [uI A.made L _ r1 hp]; exact hl
     obtain ⟨b1, b2⟩ := EF A.bN r1.1 r1.2 r i1 hL1 hl1 a2 hd
     have i2 := (tP (by omega) A.bN r1.1 r1.2 r i1 hd).1
     have hL2 : Val r.1 := fun v hv => ⟨(i2.f v hv).v0, (i2.f v hv).v1⟩
     have hl2 : r.1.length ≤ 2000 := by rw [uU A.bN r1.1 _ r hd]; exact hl1
     intro k hk'
     show (I ++ [lQ I A r.2])[k].eZ = atS _ r.1 ∧ _
     rw [List.length_append, List.length_singleton] at hk'
     by_cases hlt : k < I.length
     ·rw [List.getElem_append_left hlt, b1 _ (by omega), a1 _ (by omega)]
      exact tt k hlt
     ·have : k = I.length := by omega
      subst this
      rw [List.getElem_append_right (Nat.le_refl _)]
      simp only [Nat.sub_self, List.getElem_cons_zero, lQ]
      have bd := CN hL2 hl2 ((I.length : Nat) : Int)
      rw [← b2] at bd
      have e : qV r.2 = r.2 := w64 (by omega) (by omega)
      rw [e]
      refine ⟨b2, ?_⟩
      rw [Bool.or_eq_false_iff, Bool.or_eq_false_iff] at hov
      have := hov.1.1
      unfold vG at this
      rw [decide_eq_false_iff_not] at this
      omega
    ·cases hd
theorem TV {L : List Ver} {I : List Inf} (tt : Tot L I) {z : Int} : Tot (iC z L) (I.take (z + 1).toNat) := fun k hk => by
 rw [List.length_take] at hk
 obtain ⟨a, b⟩ := tt k (by omega)
 rw [List.getElem_take]
 refine ⟨?_, b⟩
 rw [a]
 have key : ∀ L : List Ver, atS ((k : Nat) : Int) (iC z L) = atS ((k : Nat) : Int) L := fun L => by
  induction L with
  | nil => rfl
  | cons v L ih =>
   unfold iC at ih ⊢
   rw [List.filterMap_cons, nE]
   by_cases c : z < v.made
   ·have e : kP z v = none := by unfold kP; rw [if_pos c]
    rw [e]
    have : cI v ((k : Nat) : Int) = false := by
     unfold cI
     rw [decide_eq_false (by omega)]; rfl
    rw [this, if_neg (by decide), Int.zero_add]
    exact ih
   ·by_cases d : z < v.c8 ∧ 0 < v.c8
    ·have e : kP z v = some (fT v 0 z32) := by unfold kP; rw [if_neg c, if_pos d]
     rw [e]
     simp only
     rw [nE, ih]
     have : cI (fT v 0 z32) ((k : Nat) : Int) = cI v ((k : Nat) : Int) := by
      unfold cI fT
      rw [show decide (((k : Nat) : Int) < v.c8) = true from decide_eq_true (by omega)]
      simp
     rw [this]; rfl
    ·have e : kP z v = some v := by unfold kP; rw [if_neg c, if_neg d]
     rw [e]
     simp only
     rw [nE, ih]
 exact (key L).symm
structure Sto (L : List Ver) (I : List Inf) (k : Nat) : Prop where
 i : Inv L (((I.length : Nat) : Int) - 1)
 l : Lev I
 n : L.length ≤ 20 * k
 m : I.length ≤ k
 t : Tot L I
theorem Sto.none : Sto [] [] 0 := ⟨Inv.none, Lev.none, Nat.le_refl _, Nat.le_refl _, fun k hk => by simp at hk⟩
theorem Sto.up {L : List Ver} {I : List Inf} {k j : Nat} (s : Sto L I k) (h : k ≤ j) : Sto L I j := ⟨s.i, s.l, by have := s.n; omega, by have := s.m; omega, s.t⟩
theorem PK {L : List Ver} {I : List Inf} {A : App} {q : List Ver × List Inf} (h : eD L I A = some q) : q.1.length = L.length + A.made.length := by
 unfold eD at h
 split at h
 ·cases h
 ·split at h
  ·cases h
  ·rename_i r hd
   split at h
   ·cases h
   ·injection h with h
    subst h
    unfold tQ at hd
    split at hd
    ·rename_i r1 hp
     rw [uU _ _ _ _ hd, uI _ _ _ _ hp]
    ·cases hd
def ZG (L : List Ver) (I : List Inf) (A : App) : List Ver × List Inf := (eD L I A).getD (L, I)
theorem Sto.got {L : List Ver} {I : List Inf} {k : Nat} (s : Sto L I k) (A : App) (hA : A.made.length ≤ 20) (hk : k ≤ 60) : Sto (ZG L I A).1 (ZG L I A).2 (k + 1) := by
 unfold ZG
 cases e : eD L I A with
 | none => exact s.up (by omega)
 | some q =>
  obtain ⟨a, b, x, c, d⟩ := PL s.i e
  have hl := PK e
  have h1 := s.n
  have h2 := s.m
  show Sto q.1 q.2 (k + 1)
  exact ⟨a, by rw [c]; exact s.l.D8 d, by omega, by rw [c, List.length_append, List.length_singleton]; omega, PJ s.i s.t (by omega) e⟩
theorem Sto.cut {L : List Ver} {I : List Inf} {k : Nat} (s : Sto L I k) {z : Int} (h1 : -1 ≤ z) (h2 : z ≤ ((I.length : Nat) : Int) - 1) : Sto (iC z L) (I.take (z + 1).toNat) k := by
 have hl : (I.take (z + 1).toNat).length = (z + 1).toNat := by rw [List.length_take]; omega
 have h3 := s.n
 have h4 := s.m
 have h5 : (iC z L).length ≤ L.length := List.length_filterMap_le _ _
 refine ⟨?_, s.l.take _, by omega, by omega, TV s.t⟩
 rw [hl, show (((z + 1).toNat : Nat) : Int) - 1 = z by omega]
 exact TZ s.i h1
theorem yG (o : OpS) (tip : Int) : (kO o tip).made.length = o.A.made.length := by
 unfold kO
 cases o.next <;> simp
theorem PI {o : OpS} {tip : Int} (h : ∀ v ∈ o.A.made, 0 ≤ v.pn) : ∀ v ∈ (kO o tip).made, 0 ≤ v.pn := fun v hv => by
 unfold kO at hv
 cases hn : o.next with
 | false => rw [hn] at hv; exact h v hv
 | true =>
  rw [hn] at hv
  obtain ⟨w, hw, rfl⟩ := List.mem_map.1 hv
  exact h w hw
theorem ag9 {A : App} {mv sv : a9} (h : sI A mv sv) : ∀ v ∈ A.made, 0 ≤ v.pn := fun v hv => by
 obtain ⟨j, hj, rfl⟩ := List.mem_iff_getElem.1 hv
 obtain ⟨xs, hm⟩ := h.m
 obtain ⟨w, _, a⟩ := hm.at_ j hj
 exact a.pn
theorem HA {a : a9} {os : List OpS} {xs : List a9} {i : Nat} {o : OpS} {mv sv : a9} {h : Hp} {n : Nat} (ha : yY a os xs) (hi : i < os.length) (e : (xs.drop (i * 40)).take 40 = cO o mv sv) :
  Rd (load env 105 (dM (i * 40) a)) h n (rid a) (.agg (cO o mv sv)) := by
 have hr0 := ha.rd h
 have hld := hr0.agg (E := env) (n := n) (k := i * 40) zV rfl (by decide) (by show i * 40 + 40 ≤ _; rw [hr0.length]; omega)
 have e' : (xs.drop (i * 40)).take 40 = cO o mv sv := e
 exact e' ▸ hld
theorem WY {o : OpS} {mv sv : a9} {ys zs : List a9} (hm : EZ mv o.A.made ys) (hs : IX sv o.A.bN zs) : (cO o mv sv).all bC = true := by
 have a := ((hm.rd (fun _ => none)).kind).2.1
 have b := ((hs.rd (fun _ => none)).kind).2.1
 unfold cO
 rw [List.all_cons, List.all_append, jX a b]; rfl
theorem YS (Q : dG) (ks : List Kf) (a : a9) (os : List OpS) (xs : List a9) (W : Nat → Prop) (s n0 : Nat) (h0 : Hp) (ha : yY a os xs) (hg : nZ os = false) (hn0 : n0 ≤ s)
  (hT : ∀ (h : Hp) (n : Nat) (L : List Ver) (I : List Inf) (x0 x2 x5 x10 x14 x15 x23 : a9), St W h n s L I → Sto L I os.length → bB h n → (∀ j, j < n0 → h j = h0 j) →
   cT env 58 none Q ks (.exit 0) (x0 :: a9.aA :: x2 :: .ptr s 0 :: a9.aA :: x5 :: a9.aA :: a :: .int .i64 (os.length : Nat) :: .int .i64 (os.length : Nat) :: x10 :: a9.aA :: a9.aA :: a9.aA :: x14 :: x15 :: a9.aA :: a9.aA :: a9.aA :: a9.aA :: a9.aA :: a9.aA :: a9.aA :: x23 :: a9.aA :: a9.aA :: a9.aA :: a9.aA :: a9.aA :: a9.aA :: a9.aA :: []) h n) :
  ∀ (m i : Nat) (h : Hp) (n : Nat) (L : List Ver) (I : List Inf) (x0 x2 x5 x10 x14 x15 x23 : a9), i + m = os.length → St W h n s L I → Sto L I i → bB h n → (∀ j, j < n0 → h j = h0 j) →
   Run env 58 none Q (.loop G2) ks (x0 :: a9.aA :: x2 :: .ptr s 0 :: a9.aA :: x5 :: a9.aA :: a :: .int .i64 (os.length : Nat) :: .int .i64 (i : Nat) :: x10 :: a9.aA :: a9.aA :: a9.aA :: x14 :: x15 :: a9.aA :: a9.aA :: a9.aA :: a9.aA :: a9.aA :: a9.aA :: a9.aA :: x23 :: a9.aA :: a9.aA :: a9.aA :: a9.aA :: a9.aA :: a9.aA :: a9.aA :: []) h n := by
 obtain ⟨g1, g2⟩ := tI hg
 intro m
 induction m with
 | zero =>
  intro i h n L I x0 x2 x5 x10 x14 x15 x23 hm hs hS hf ho
  have : i = os.length := by omega
  subst this
  rw [bT]
  have hcc : ¬ (((os.length : Nat) : Int) < ((os.length : Nat) : Int)) := by omega
  simp only [G2, bD, Try.f58, Option.getD_some, fgr, bor, List.getD_cons_zero, hcc, gE]
  exact hT h n L I _ _ _ _ _ _ _ hs hS hf ho
 | succ m ih =>
  intro i h n L I x0 x2 x5 x10 x14 x15 x23 hm hs hS hf ho
  have hil : i < os.length := by omega
  have hcc : (((i : Nat) : Int) < ((os.length : Nat) : Int)) := by omega
  have w1 : IntKind.i64.wrap (((i : Nat) : Int) + 1) = ((i + 1 : Nat) : Int) := by rw [w64 (by omega) (by omega)]; omega
  obtain ⟨mv, sv, e, hA, hw⟩ := ha.at_ i hil
  have hr0 := ha.rd h
  have hmem : os[i] ∈ os := List.getElem_mem hil
  generalize hoi : os[i] = o at *
  obtain ⟨g3, g4, g5⟩ := g2 o hmem
  have hld := HA (h := h) (n := n) ha hil e
  have hAA := hA
  obtain ⟨⟨ys, hm1⟩, ⟨zs, hs1⟩, hb⟩ := hAA
  have sl := hS.n
  have sm := hS.m
  rw [bT]
  simp only [G2, bD, Try.f58, Option.getD_some, fgr, bor, List.getD_cons_zero, hcc, gE]
  rw [aH (hr0.idx (j := i) CX KW rfl hil)]
  simp only [gE]
  rw [aH hld]
  simp only [gE]
  rw [cC zV rfl]
  simp only [cel, gE]
  refine dF (v := .agg (cO o mv sv)) zV rfl (oY hb) (WY hm1 hs1) hf fun H1 r1 p1 f1 => ?_
  replace r1 : Row H1 n (cO o mv sv) := r1
  have s1 := hs.old (n' := n + 1) (by omega) (fun j hj => p1 j (by omega))
  have sn := hs.sn
  have ho1 : ∀ j, j < n0 → H1 j = h0 j := fun j hj => by rw [p1 j (by omega), ho j hj]
  simp only [tyr, fgr, aR, gE]
  rw [aH (JJ r1)]
  simp only [fgr, bor, gE]
  by_cases c0 : o.kind = 0
  ·simp only [bK, decide_true, c0]
   refine c9 ⟨rfl, ?_⟩
   simp only [gE]
   rw [aZ (N3 r1 hb)]
   simp only [hkr, Nat.reduceAdd, gE]
   rw [aZ (WM s1 (by omega))]
   simp only [hkr, Nat.reduceAdd, gE]
   refine dC f1 (f59 o _ mv sv H1 _ hA (by omega) (by omega) (fun v hv => by have := g5 v hv; omega) f1) fun v2 h2 n2 r2 w2 hn2 f2 ⟨mv2, sv2, e2, a2, o2⟩ => ?_
   subst e2
   have s2 := s1.old hn2 o2
   have ho2 : ∀ j, j < n0 → h2 j = h0 j := fun j hj => by rw [o2 j (by omega), ho1 j hj]
   simp only [hkr, Nat.reduceAdd, gE]
   refine dC f2 (f19 s2 (kO o _) mv2 sv2 (n + 1) n2 a2 (Nat.le_refl _) (fun j q1 q2 w => ?_) (PI (ag9 hA)) (by omega) (by rw [yG]; omega) f2) fun v3 h3 n3 r3 w3 hn3 f3 ⟨e3, o3, s3⟩ => ?_
   ·obtain ⟨x, lv, _, _, _, _, _, c⟩ := hs
    have := c j w
    omega
   subst e3
   have hS3 := hS.got (kO o (((I.length : Nat) : Int) - 1)) (by rw [yG]; exact g3) (by omega)
   have ho3 : ∀ j, j < n0 → h3 j = h0 j := fun j hj => by rw [o3 j (by omega) (by omega), ho2 j hj]
   simp only [fgr, bor, bZ, Nat.reduceAdd, gE]
   refine ⟨(by (try simp (disch := first | assumption | omega) only [cM, gF]); repeat' (first | rfl | exact (Bool.or_eq_true _ _).mpr (.inr rfl) | refine (Bool.and_eq_true _ _).mpr ⟨?_, ?_⟩)), ?_⟩
   simp only [w1]
   exact ih (i + 1) h3 n3 _ _ _ _ _ _ _ _ _ (by omega) s3 hS3 f3 ho3
  by_cases c1 : o.kind = 1
  ·simp only [tyr, fgr, bor, aR, Int.reduceEq, c1, gE]
   rw [aH (N1 r1 hb)]
   simp only [hkr, gE]
   refine aU f1 (f22 s1 o.num (by omega) (by omega) f1) fun v2 h2 n2 hn2 f2 ⟨o2, hh⟩ => ?_
   have ho2 : ∀ j, j < n0 → h2 j = h0 j := fun j hj => by rw [o2 j (by omega) (by omega), ho1 j hj]
   rcases hh with ⟨_, e2, s2⟩ | ⟨q1, q2, e2, s2⟩
   ·subst e2
    simp only [fgr, bor, bZ, w1, gE]
    exact ih (i + 1) h2 n2 L I _ _ _ _ _ _ _ (by omega) s2 (hS.up (by omega)) f2 ho2
   ·subst e2
    simp only [fgr, bor, bZ, w1, gE]
    exact ih (i + 1) h2 n2 _ _ _ _ _ _ _ _ _ (by omega) s2 ((hS.cut q1 q2).up (by omega)) f2 ho2
  simp only [fgr, bor, bZ, c0, c1, w1, gE]
  exact ih (i + 1) H1 (n + 1) L I _ _ _ _ _ _ _ (by omega) s1 (hS.up (by omega)) f1 ho1
theorem f58 (a : a9) (os : List OpS) (xs : List a9) (h : Hp) (n : Nat) (ha : yY a os xs) (hg : nZ os = false) (hf : bB h n) :
  Wp (aQ env (aE env) 58 [a]) h n fun v' h' n' => ∃ s L I, v' = .ptr s 0 ∧ n ≤ s ∧ St (fun j => j = s) h' n' s L I ∧ Sto L I 30 ∧ Old h h' n := by
 obtain ⟨g1, g2⟩ := tI hg
 have hr0 := ha.rd
 refine aW aT5 aJ7 ?_
 simp only [aa8, Try.f58, Option.getD_some, List.replicate, fgr, hkr, Nat.reduceSub, gE]
 refine aU hf (f26 (fun _ => False) h n hf (fun _ w => w.elim)) fun v1 h1 n1 hn1 f1 ⟨s, e1, hx, s1, o1⟩ => ?_
 subst e1
 have s1' : St (fun j => j = s) h1 n1 s [] [] := by
  have : (fun j => False ∨ j = s) = fun j => j = s := funext fun j => propext ⟨fun q => q.elim (fun q => q.elim) id, .inr⟩
  rw [← this]
  exact s1
 simp only [fgr, builtin, (hr0 h1).cA CX, gE]
 refine YS _ _ a os xs (fun j => j = s) s n h1 ha hg hx ?_ os.length 0 h1 n1 [] [] _ _ _ _ _ _ _ (by omega) s1' Sto.none f1 (fun j hj => rfl)
 intro h2 n2 L I x0 x2 x5 x10 x14 x15 x23 s2 hS f2 ho
 simp only [fgr, gE]
 exact ⟨s, L, I, rfl, hx, s2, hS.up g1, fun j hj => by rw [ho j hj, o1 j hj]⟩
def hb_ (x : UInt8) : List UInt8 := x :: List.replicate 31 0
def nw (pn made value : Int) (s : List UInt8) : Ver := ⟨z0, pn, made, value, s, false, 0, z0⟩
theorem NI (pn made value : Int) (s : List UInt8) : (nw pn made value s).Ok := ⟨rfl, rfl⟩
theorem f16 (k : Int) (h : Hp) (n : Nat) (hf : bB h n) : Wp (aQ env (aE env) 16 [.int .u32 k]) h n fun v' h' n' => v' = .agg (aV z0 k) ∧ Old h h' n := by
 have b28 : build env 28 [(1, .int .u32 k)] = M.pure (.agg (aV z0 k)) := rfl
 refine aW aV4 aL6 ?_
 simp only [ac7, Try.f16, Option.getD_some, List.replicate, Nat.reduceSub, gE]
 rw [cC jJ rfl]
 obtain ⟨H1, hH1⟩ : ∃ H1, H1 = upd h n (some (.row (.l J0.i.zero.cells) 28)) := ⟨_, rfl⟩
 have g1 : H1 n = some (.row (.l J0.i.zero.cells) 28) := by rw [hH1, aM]
 have o1 : ∀ j, j ≠ n → H1 j = h j := fun j hj => by rw [hH1, aK _ _ hj]
 show Ops _ _ _ _ _ _ _ _ (upd h n (some (.row (.l J0.i.zero.cells) 28))) _
 rw [← hH1]
 clear hH1
 simp only [fgr, b28, gE]
 rw [dE (Row.write (off := 0) (v := .agg (aV z0 k)) g1 jJ (bW rfl) (by decide) (rQ _ _))]
 rw [eB (by rfl)]
 simp only [bK, fgr, bQ, nth, aJ, cel, true_and]
 refine eK (Row.gY (cs := aV z0 k) ⟨28, aM _ _ _⟩ jJ rfl (bW rfl)) (aS.2 ?_)
 exact ⟨rfl, fun j hj => by rw [aK _ _ (by omega), o1 j (by omega)]⟩
theorem L4 {h : Hp} {a b id cnt : Nat} {vs : List Ver} {cells : List a9} (hh : h id = some (.row (.l cells) 31)) (hl : vs.length = cnt) (v : Vs h (fun j => a ≤ j ∧ j < b ∧ j ≠ id) cells vs) (h1 : a ≤ id) (h2 : id < b) : VL h a b (.sl id 0 cnt (some cnt) 70) vs := by
 subst hl
 have e := v.len
 exact ⟨cells, .sl id _ (some vs.length) cells cells hh (by omega) (fun k q => by injection q with q; omega) (by rw [List.take_of_length_le (by omega)]), v.mono (fun j q => ⟨q.1, q.2.1, fun w => by injection w with w; exact q.2.2 w.symm⟩) (fun j q => rfl), fun j q => by injection q with q; omega⟩
theorem WO {h : Hp} {a b id cnt : Nat} {ss : List Spd} {cells : List a9} (hh : h id = some (.row (.l cells) 48)) (hl : ss.length = cnt) (he : cells.length = cnt * 65) (hs : ∀ (j : Nat) (hj : j < ss.length), (cells.drop (j * 65)).take 65 = eC ss[j] ∧ ss[j].Ok) (h1 : a ≤ id) (h2 : id < b) : SL h a b (.sl id 0 cnt (some cnt) 65) ss := by
 subst hl
 exact ⟨cells, .sl id _ (some ss.length) cells cells hh (by omega) (fun k q => by injection q with q; omega) (by rw [List.take_of_length_le (by omega)]), hs, fun j q => by injection q with q; omega⟩
theorem RW {h : Hp} {a b : Nat} : SL h a b .aL [] := ⟨[], .nil, fun j hj => by simp at hj, fun j q => by cases q⟩
def ae7 : App := ⟨0, hb_ 1, [nw 1 0 50 [115]], [], 0, 0⟩
def PA : App := ⟨1, hb_ 2, [nw 2 1 30 [115], nw 3 1 20 [116]], [⟨z0, 1, hb_ 9⟩], 3, 4⟩
def CA : Inf := ⟨0, hb_ 1, 1, 50, 0, 0⟩
def uS : Inf := ⟨1, hb_ 2, 2, 50, 3, 4⟩
def TQ : List Ver := [fT (nw 1 0 50 [115]) 1 (hb_ 9), nw 2 1 30 [115], nw 3 1 20 [116]]
theorem aW8 : eD [] [] ae7 = some ([nw 1 0 50 [115]], [CA]) := by kernel_rfl
theorem aW7 : eD [nw 1 0 50 [115]] [CA] PA = some (TQ, [CA, uS]) := by kernel_rfl
theorem ay9 : build env 25 [(0, .int .u8 1)] = M.pure (.agg ((hb_ 1).map u8)) := rfl
theorem V5 : build env 25 [(0, .int .u8 2)] = M.pure (.agg ((hb_ 2).map u8)) := rfl
theorem ay8 : build env 25 [(0, .int .u8 9)] = M.pure (.agg ((hb_ 9).map u8)) := rfl
theorem aY0 (n : Nat) (k value : Int) (s : List UInt8) : build env 31 [(0, .agg (aV z0 k)), (2, .int .i64 value), (3, .sl n 0 1 (some 1) 1)] = M.pure (.agg (aN (nw k 0 value s) (.sl n 0 1 (some 1) 1))) := rfl
theorem ay7 (n : Nat) (k made value : Int) (s : List UInt8) : build env 31 [(0, .agg (aV z0 k)), (1, .int .i64 made), (2, .int .i64 value), (3, .sl n 0 1 (some 1) 1)] = M.pure (.agg (aN (nw k made value s) (.sl n 0 1 (some 1) 1))) := rfl
theorem aX8 (b : UInt8) (n : Nat) : build env 46 [(1, .agg ((hb_ b).map u8)), (2, .sl n 0 1 (some 1) 70)] = M.pure (.agg (aX ⟨0, hb_ b, [], [], 0, 0⟩ (.sl n 0 1 (some 1) 70) .aL)) := rfl
theorem af2 {X Y : List a9} (hX : X.length = 70) (hY : Y.length = 70) : buildSlice env 43 2 [(0, .agg X), (1, .agg Y)] = (newRow env 31 (X ++ Y)).bind fun id => M.pure (.sl id 0 2 (some 2) 70) := by
 have e1 : fill (fun k => some (k * 70, 70)) (eS eQ.i.zero.cells 2) [(0, .agg X), (1, .agg Y)] = some (X ++ Y) := by
  have : eS eQ.i.zero.cells 2 = [] ++ eQ.i.zero.cells ++ eQ.i.zero.cells := rfl
  rw [this, gN (off := 0) (sz := 70) (pre := []) (mid := eQ.i.zero.cells) (eV := eQ.i.zero.cells) (v := .agg X) (rest := [(1, .agg Y)]) rfl rfl rfl hX rfl]
  have e : ([] ++ (a9.agg X).cells ++ eQ.i.zero.cells) = X ++ eQ.i.zero.cells ++ [] := by simp [a9.cells]
  rw [e, gN (off := 70) (sz := 70) (pre := X) (mid := eQ.i.zero.cells) (eV := []) (v := .agg Y) (rest := []) rfl hX rfl hY rfl]
  simp [fill, a9.cells]
 have e2 : buildSlice env 43 2 [(0, .agg X), (1, .agg Y)] = (fS "buildSlice" (fill (fun k => some (k * 70, 70)) (eS eQ.i.zero.cells 2) [(0, .agg X), (1, .agg Y)])).bind fun cs => (newRow env 31 cs).bind fun id => M.pure (.sl id 0 2 (some 2) 70) := rfl
 rw [e2, e1]
 rfl
theorem aX3 {X : List a9} (hX : X.length = 65) : buildSlice env 44 1 [(0, .agg X)] = (newRow env 48 X).bind fun id => M.pure (.sl id 0 1 (some 1) 65) := by
 have e1 : fill (fun k => some (k * 65, 65)) (eS B8.i.zero.cells 1) [(0, .agg X)] = some X := by
  have : eS B8.i.zero.cells 1 = [] ++ B8.i.zero.cells ++ [] := rfl
  rw [this, gN (off := 0) (sz := 65) (pre := []) (mid := B8.i.zero.cells) (eV := []) (v := .agg X) (rest := []) rfl rfl rfl hX rfl]
  simp [fill, a9.cells]
 have e2 : buildSlice env 44 1 [(0, .agg X)] = (fS "buildSlice" (fill (fun k => some (k * 65, 65)) (eS B8.i.zero.cells 1) [(0, .agg X)])).bind fun cs => (newRow env 48 cs).bind fun id => M.pure (.sl id 0 1 (some 1) 65) := rfl
 rw [e2, e1]
 rfl
theorem aX6 (k : Int) (b : UInt8) : build env 48 [(0, .agg (aV z0 k)), (1, .agg ((hb_ b).map u8))] = M.pure (.agg (eC ⟨z0, k, hb_ b⟩)) := rfl
theorem aX7 (b : UInt8) (n m : Nat) (bJ dX left : Int) : build env 46 [(0, .int .i64 bJ), (1, .agg ((hb_ b).map u8)), (4, .int .i64 dX), (5, .int .i64 left), (2, .sl n 0 2 (some 2) 70), (3, .sl m 0 1 (some 1) 65)] = M.pure (.agg (aX ⟨bJ, hb_ b, [], [], dX, left⟩ (.sl n 0 2 (some 2) 70) (.sl m 0 1 (some 1) 65))) := rfl
theorem f14 (W : Nat → Prop) (h : Hp) (n : Nat) (hf : bB h n) (hw : ∀ j, W j → j < n) : Wp (aQ env (aE env) 14 []) h n fun v' h' n' => ∃ s, v' = .ptr s 0 ∧ n ≤ s ∧ St (fun j => W j ∨ j = s) h' n' s TQ [CA, uS] ∧ Old h h' n := by
 refine aW aV5 aL7 ?_
 simp only [ac8, Try.f14, Option.getD_some, List.replicate, fgr, hkr, Nat.reduceSub, gE]
 refine aU hf (f26 W h n hf hw) fun v1 h1 n1 hn1 f1 ⟨s, e1, hx, s1, o1⟩ => ?_
 subst e1
 have sn := s1.sn
 simp only [fgr, hkr, ay9, gE]
 refine aU f1 (f16 1 h1 n1 f1) fun v2 h2 n2 hn2 f2 ⟨e2, o2⟩ => ?_
 subst e2
 simp only [tyr, cel, Nat.beq, buildSlice, eS, fill, List.take_zero, List.drop_succ_cons, List.drop_zero, Nat.ble, Nat.one_mul, gE]
 refine hG ti5 f2 (f := fun id => a9.sl id 0 1 (some 1) 1) fun H3 r3 o3 f3 => ?_
 have bb3 : Bytes H3 (.sl n2 0 1 (some 1) 1) [115] := Bytes.AK (l := [115]) r3
 simp only [tyr, lenOf, eG, Nat.beq, reduceCtorEq, Option.some.injEq, exists_eq_left', ne_eq, convert, fV, pG, r3, jB r3, zU, show (Nat.blt 0 1) = true from rfl, aY0 _ _ _ [115], U5 (bR (v := nw 1 0 50 [115]) rfl rfl), gE]
 refine hG eR f3 (f := fun id => a9.sl id 0 1 (some 1) 70) fun H4 r4 o4 f4 => ?_
 simp only [hkr, aX8, gE]
 have bb4 := bb3.aO (h' := H4) fun j q => o4 j (by injection q with q; omega)
 have v4 : VL H4 n1 (n2 + 1 + 1) (.sl (n2 + 1) 0 1 (some 1) 70) [nw 1 0 50 [115]] := L4 r4 rfl ((Vs.nil H4 _).D8 bb4 (NI _ _ _ _) fun i q => by injection q with q; omega) (by omega) (by omega)
 have a4 : jN H4 n1 (n2 + 1 + 1) ae7 (.sl (n2 + 1) 0 1 (some 1) 70) .aL := ⟨v4, RW, rfl, by decide, by decide⟩
 have s4 := s1.old (n' := n2 + 1 + 1) (by omega) (h' := H4) fun j hj => by rw [o4 j (by omega), o3 j (by omega), o2 j hj]
 have nW : ∀ j, n1 ≤ j → ¬ (W j ∨ j = s) := fun j q w => by
  rcases w with w | w
  ·have := hw j w; omega
  ·omega
 refine aU f4 (f19 s4 ae7 _ _ n1 (n2 + 1 + 1) a4 (Nat.le_refl _) (fun j q1 q2 => nW j q1) (by decide) (by decide) (by decide) f4) fun v5 h5 n5 hn5 f5 ⟨e5, o5, s5⟩ => ?_
 rw [aW8] at e5 s5
 subst e5
 simp only [Option.getD_some] at s5
 have oo5 : ∀ j, j < n → h5 j = h j := fun j hj => by rw [o5 j (by omega) (by omega), o4 j (by omega), o3 j (by omega), o2 j (by omega), o1 j hj]
 simp only [fgr, HB, gE]
 simp only [hkr, V5, gE]
 refine aU f5 (f16 2 h5 n5 f5) fun v6 h6 n6 hn6 f6 ⟨e6, o6⟩ => ?_
 subst e6
 simp only [tyr, cel, Nat.beq, buildSlice, eS, fill, List.take_zero, List.drop_succ_cons, List.drop_zero, Nat.ble, Nat.one_mul, gE]
 refine hG ti5 f6 (f := fun id => a9.sl id 0 1 (some 1) 1) fun H7 r7 o7 f7 => ?_
 have bb7 : Bytes H7 (.sl n6 0 1 (some 1) 1) [115] := Bytes.AK (l := [115]) r7
 simp only [tyr, hkr, lenOf, eG, Nat.beq, reduceCtorEq, Option.some.injEq, exists_eq_left', ne_eq, convert, fV, pG, r7, jB r7, zU, show (Nat.blt 0 1) = true from rfl, ay7 _ _ _ _ [115], gE]
 refine aU f7 (f16 3 H7 _ f7) fun v8 h8 n8 hn8 f8 ⟨e8, o8⟩ => ?_
 subst e8
 have bb8 := bb7.aO (h' := h8) fun j q => o8 j (by injection q with q; omega)
 simp only [tyr, cel, Nat.beq, buildSlice, eS, fill, List.take_zero, List.drop_succ_cons, List.drop_zero, Nat.ble, Nat.one_mul, gE]
 refine hG ti5 f8 (f := fun id => a9.sl id 0 1 (some 1) 1) fun H9 r9 o9 f9 => ?_
 have bb9 : Bytes H9 (.sl n8 0 1 (some 1) 1) [116] := Bytes.AK (l := [116]) r9
 have bc9 := bb8.aO (h' := H9) fun j q => o9 j (by injection q with q; omega)
 simp only [tyr, lenOf, eG, Nat.beq, reduceCtorEq, Option.some.injEq, exists_eq_left', ne_eq, convert, fV, pG, r9, jB r9, zU, show (Nat.blt 0 1) = true from rfl, ay7 _ _ _ _ [116], af2 (bR (v := nw 2 1 30 [115]) rfl rfl) (bR (v := nw 3 1 20 [116]) rfl rfl), gE]
 refine hG eR f9 (f := fun id => a9.sl id 0 2 (some 2) 70) fun H10 r10 o10 f10 => ?_
 have bb10 := bb9.aO (h' := H10) fun j q => o10 j (by injection q with q; omega)
 have bc10 := bc9.aO (h' := H10) fun j q => o10 j (by injection q with q; omega)
 simp only [hkr, gE]
 refine aU f10 (f16 1 H10 _ f10) fun v11 h11 n11 hn11 f11 ⟨e11, o11⟩ => ?_
 subst e11
 simp only [ay8, aX6, aX3 (lK (s := ⟨z0, 1, hb_ 9⟩) ⟨rfl, rfl⟩), gE]
 refine hG z6 f11 (f := fun id => a9.sl id 0 1 (some 1) 65) fun H12 r12 o12 f12 => ?_
 simp only [hkr, aX7, gE]
 have t12 : ∀ j, j < n8 + 1 + 1 → H12 j = H10 j := fun j hj => by rw [o12 j (by omega), o11 j (by omega)]
 have bb12 := bb10.aO (h' := H12) fun j q => t12 j (by injection q with q; omega)
 have bc12 := bc10.aO (h' := H12) fun j q => t12 j (by injection q with q; omega)
 have r12' : H12 (n8 + 1) = some (.row (.l (aN (nw 2 1 30 [115]) (.sl n6 0 1 (some 1) 1) ++ aN (nw 3 1 20 [116]) (.sl n8 0 1 (some 1) 1))) 31) := (t12 _ (by omega)).trans r10
 have v12 : VL H12 n5 (n11 + 1) (.sl (n8 + 1) 0 2 (some 2) 70) PA.made := L4 r12' rfl (((Vs.nil H12 _).D8 bc12 (NI 2 1 30 _) fun i q => by injection q with q; omega).D8 bb12 (NI 3 1 20 _) fun i q => by injection q with q; omega) (by omega) (by omega)
 have a12 : jN H12 n5 (n11 + 1) PA (.sl (n8 + 1) 0 2 (some 2) 70) (.sl n11 0 1 (some 1) 65) := ⟨v12, WO r12 rfl rfl (fun j hj => by
  have : j = 0 := by have : PA.bN.length = 1 := rfl; omega
  subst this
  exact ⟨rfl, rfl, rfl⟩) (by omega) (by omega), rfl, by decide, by decide⟩
 have x12 : ∀ j, j < n5 → H12 j = h5 j := fun j hj => by rw [t12 j (by omega), o10 j (by omega), o9 j (by omega), o8 j (by omega), o7 j (by omega), o6 j hj]
 have s12 := s5.old (n' := n11 + 1) (by omega) (h' := H12) x12
 refine aU f12 (f19 s12 PA _ _ n5 (n11 + 1) a12 (Nat.le_refl _) (fun j q1 q2 => nW j (by omega)) (by decide) (by decide) (by decide) f12) fun v13 h13 n13 hn13 f13 ⟨e13, o13, s13⟩ => ?_
 rw [aW7] at e13 s13
 subst e13
 simp only [Option.getD_some] at s13
 simp only [fgr, bor, bH, HB, gE]
 refine ⟨s, rfl, hx, s13, fun j hj => by rw [o13 j (by omega) (by omega), x12 j (by omega), oo5 j hj]⟩
def eqI (a b : Inf) : Bool := (a.bJ == b.bJ) && (decide (a.block = b.block) && ((a.jA == b.jA) && ((a.eZ == b.eZ) && ((a.dX == b.dX) && (a.left == b.left)))))
theorem PC (a : Inf) : eqI a a = true := by simp [eqI]
theorem AF {i : Inf} (hb : i.block.length = 32) : part env 25 (bL i) 1 = M.pure (.agg (i.block.map u8)) := by
 simp only [part, nK, aD, kS]
 rw [show ((bL i).drop 1).take 32 = i.block.map u8 by unfold bL; rw [List.drop_succ_cons, List.drop_zero, List.take_append_of_le_length (by simp [hb]), List.take_of_length_le (by simp [hb])]]
theorem aX0 (d : Nat) (a b : Inf) (ha : a.block.length = 32) (hb : b.block.length = 32) : equal env (d + 1 + 1 + 1) 61 (.agg (bL a)) (.agg (bL b)) = M.pure (eqI a b) := by
 have hq : zL env env.eqs 61 = true := rfl
 have p0 : ∀ (i : Inf), part env 3 (bL i) 0 = M.pure (.int .i64 i.bJ) := fun i => rfl
 have pk : ∀ (i : Inf) (k : Nat) (v : a9) (t : TypeId) (tt : ti env t = M.pure ty2.i ∨ ti env t = M.pure ty3.i), i.block.length = 32 → [a9.int .i64 i.jA, .int .i64 i.eZ, .int .i64 i.dX, .int .i64 i.left][k]? = some v → part env t (bL i) (33 + k) = M.pure v := fun i k v t tt hl e => by
  rcases tt with tt | tt <;> simp only [part, tt, aD, show kS ty2.i.desc = false from rfl, show kS ty3.i.desc = false from rfl, jE hl k, e, fS]
 have q3 : ∀ x y, equal env (d + 1 + 1) 3 (.int .i64 x) (.int .i64 y) = M.pure (x == y) := fun x y => by
  simp only [equal, und, ti3, aD, decide_true]
 have q2 : ∀ x y, equal env (d + 1 + 1) 2 (.int .i64 x) (.int .i64 y) = M.pure (x == y) := fun x y => by
  simp only [equal, und, ti2, aD, decide_true]
 rw [equal]
 ·simp only [und, gV, aD, hq, gR]
  simp only [vY, show decide ("Height" = "_") = false from rfl, show decide ("Block" = "_") = false from rfl, show decide ("Coins" = "_") = false from rfl, show decide ("Total" = "_") = false from rfl, show decide ("Burnt" = "_") = false from rfl, show decide ("Left" = "_") = false from rfl, p0, AF ha, AF hb, aD, PD d a.block b.block ha hb, pk a 0 _ 3 (.inr ti3) ha rfl, pk b 0 _ 3 (.inr ti3) hb rfl, pk a 1 _ 2 (.inl ti2) ha rfl, pk b 1 _ 2 (.inl ti2) hb rfl, pk a 2 _ 2 (.inl ti2) ha rfl, pk b 2 _ 2 (.inl ti2) hb rfl, pk a 3 _ 2 (.inl ti2) ha rfl, pk b 3 _ 2 (.inl ti2) hb rfl, q2, q3, Bool.and_true]
  rfl
 all_goals (intro k n h; cases h)
theorem ax5 (a b : Inf) (ha : a.block.length = 32) (hb : b.block.length = 32) : bP env .eql 61 (.agg (bL a)) (.agg (bL b)) = M.pure (.bool (eqI a b)) := by
 have e := aX0 97 a b ha hb
 unfold bP
 simp only
 unfold bU
 rw [e, aD]
theorem ax3 : zQ TQ [CA, uS] [115] 0 = 50 := by kernel_rfl
theorem ax2 : zQ TQ [CA, uS] [115] 1 = 30 := by kernel_rfl
theorem ax1 : vT (kK [CA, uS] 0) = 0 := by kernel_rfl
theorem V1 : vT (kK [CA, uS] 1) = 0 := by kernel_rfl
theorem ax0 : (kK [CA, uS] 1).getD gH = uS := by kernel_rfl
theorem aX5 (bJ jA eZ dX left : Int) (b : UInt8) : build env 61 [(0, .int .i64 bJ), (1, .agg ((hb_ b).map u8)), (2, .int .i64 jA), (3, .int .i64 eZ), (4, .int .i64 dX), (5, .int .i64 left)] = M.pure (.agg (bL ⟨bJ, hb_ b, jA, eZ, dX, left⟩)) := rfl
theorem f27 (h : Hp) (n : Nat) (hf : bB h n) : Wp (aQ env (aE env) 27 []) h n fun v' h' n' => v' = .bool true ∧ Old h h' n := by
 refine aW aU7 aK9 ?_
 simp only [ac0, Try.f27, Option.getD_some, List.replicate, fgr, hkr, Nat.reduceSub, gE]
 refine aU hf (f14 (fun _ => False) h n hf (fun j w => w.elim)) fun v1 h1 n1 hn1 f1 ⟨s, e1, hx, s1, o1⟩ => ?_
 subst e1
 simp only [tyr, fgr, cel, Nat.beq, buildSlice, eS, fill, List.take_zero, List.drop_succ_cons, List.drop_zero, Nat.ble, Nat.one_mul, gE]
 refine hG ti5 f1 (f := fun id => a9.sl id 0 1 (some 1) 1) fun H2 r2 o2 f2 => ?_
 have bb2 : Bytes H2 (.sl n1 0 1 (some 1) 1) [115] := Bytes.AK (l := [115]) r2
 have s2 := s1.old (n' := n1 + 1) (by omega) (h' := H2) fun j hj => o2 j (by omega)
 simp only [tyr, hkr, lenOf, eG, Nat.beq, reduceCtorEq, Option.some.injEq, exists_eq_left', ne_eq, convert, fV, pG, r2, jB r2, zU, show (Nat.blt 0 1) = true from rfl, gE]
 refine aU f2 (f60 s2 _ [115] 0 bb2 (fun j q => by injection q with q; omega) (by decide) (by decide) f2) fun v3 h3 n3 hn3 f3 ⟨e3, o3⟩ => ?_
 subst e3
 have s3 := s2.old hn3 o3
 simp only [tyr, fgr, cel, Nat.beq, buildSlice, eS, fill, List.take_zero, List.drop_succ_cons, List.drop_zero, Nat.ble, Nat.one_mul, ax3, ax1, gE]
 refine hG ti5 f3 (f := fun id => a9.sl id 0 1 (some 1) 1) fun H4 r4 o4 f4 => ?_
 have bb4 : Bytes H4 (.sl n3 0 1 (some 1) 1) [115] := Bytes.AK (l := [115]) r4
 have s4 := s3.old (n' := n3 + 1) (by omega) (h' := H4) fun j hj => o4 j (by omega)
 simp only [tyr, hkr, lenOf, eG, Nat.beq, reduceCtorEq, Option.some.injEq, exists_eq_left', ne_eq, convert, fV, pG, r4, jB r4, zU, show (Nat.blt 0 1) = true from rfl, gE]
 refine aU f4 (f60 s4 _ [115] 1 bb4 (fun j q => by injection q with q; omega) (by decide) (by decide) f4) fun v5 h5 n5 hn5 f5 ⟨e5, o5⟩ => ?_
 subst e5
 have s5 := s4.old hn5 o5
 simp only [fgr, hkr, ax2, V1, gE]
 refine aU f5 (f25 s5 1 (by decide) f5) fun v6 h6 n6 hn6 f6 ⟨e6, ob6, o6⟩ => ?_
 subst e6
 simp only [ax0, V1, gE]
 rw [cC gV rfl]
 simp only [cel, gE]
 refine dF (v := .agg (bL uS)) gV rfl rfl (eN _) f6 fun H7 r7 p7 f7 => ?_
 replace r7 : Row H7 n6 (bL uS) := r7
 simp only [fgr, bor, bH, gE]
 rw [aH (r7.gY gV rfl rfl)]
 simp only [fgr, bor, bH, V5, aX5, ax5 uS ⟨1, hb_ 2, 2, 50, 3, 4⟩ rfl rfl, show eqI uS ⟨1, hb_ 2, 2, 50, 3, 4⟩ = true from PC uS, gE]
 exact fun j hj => by rw [p7 j (by omega), o6 j (by omega), o5 j (by omega), o4 j (by omega), o3 j (by omega), o2 j (by omega), o1 j hj]
structure Above (L : List Ver) (I : List Inf) (L' : List Ver) (I' : List Inf) : Prop where
 c : iC (((I.length : Nat) : Int) - 1) L' = L
 n : I.length ≤ I'.length
 p : I'.take I.length = I
abbrev Sc := Ins.Sc
def ev (e : Sc) : a9 × a9 := (.str e.1, .int .i64 e.2)
def isS (s : List UInt8) : a9 → Bool
 | .str b => s == b
 | _ => false
theorem IZ : und env 115 = M.pure (.map 9 2) := rfl
theorem z2o : j3 env 2 = M.pure (.int .i64 0) := rfl
theorem I6 (s : List UInt8) : iT env 100 9 (.str s) = M.pure () := rfl
theorem PB (s b : List UInt8) : bU env 9 (.str s) (.str b) = M.pure (isS s (.str b)) := rfl
theorem MF {s b : List UInt8} (h : isS s (.str b) = true) : jC (.str b) (.str s) = true := by
 have : s = b := by unfold isS at h; simpa using h
 subst this
 simp [jC, oV]
theorem evs (s : List UInt8) (m : List Sc) : ∀ e ∈ m.map ev, bU env 9 (.str s) e.1 = M.pure (isS s e.1) := fun e he => by
 obtain ⟨x, hx, rfl⟩ := List.mem_map.1 he
 exact PB s x.1
def gS (s : List UInt8) (v : Int) : List Sc → List Sc
 | [] => [(s, v)]
 | e :: m => if s = e.1 then (e.1, e.2 + v) :: m else e :: gS s v m
def gQ (s : List UInt8) : List Sc → Int
 | [] => 0
 | e :: m => if s = e.1 then e.2 else gQ s m
theorem yT {s : List UInt8} {v : Int} : ∀ {m : List Sc} {i : Nat}, dB (isS s) (m.map ev) i = none → gS s v m = m ++ [(s, v)] ∧ gQ s m = 0
 | [], i, _ => ⟨rfl, rfl⟩
 | e :: m, i, h => by
  simp only [List.map_cons, dB] at h
  split at h
  ·cases h
  ·rename_i c
   have hn : ¬ s = e.1 := fun q => c (by simp [ev, isS, q])
   obtain ⟨a, b⟩ := yT (v := v) h
   simp only [gS, gQ, if_neg hn, a, b, List.cons_append, and_self]
theorem yS {s : List UInt8} {v : Int} : ∀ {m : List Sc} {i j : Nat} {x : a9}, dB (isS s) (m.map ev) i = some (j, x) → ∃ q, j = i + q ∧ q < m.length ∧ m[q]? = some (s, gQ s m) ∧ x = .int .i64 (gQ s m) ∧ gS s v m = m.modify q fun e => (e.1, e.2 + v)
 | [], i, j, x, h => by cases h
 | e :: m, i, j, x, h => by
  simp only [List.map_cons, dB] at h
  split at h
  ·rename_i c
   have hn : s = e.1 := by simpa [ev, isS] using c
   injection h with h; injection h with h1 h2
   subst h1; subst h2
   refine ⟨0, rfl, by simp, ?_, ?_, ?_⟩
   ·simp [gQ, hn]
   ·simp [gQ, hn, ev]
   ·simp [gS, hn]
  ·rename_i c
   have hn : ¬ s = e.1 := fun q => c (by simp [ev, isS, q])
   obtain ⟨q, h1, h2, h3, h4, h5⟩ := yS (v := v) h
   refine ⟨q + 1, by omega, by simpa using h2, ?_, ?_, ?_⟩
   ·simp only [List.getElem?_cons_succ, gQ, if_neg hn, h3]
   ·simp only [gQ, if_neg hn, h4]
   ·simp only [gS, if_neg hn, h5, List.modify_succ_cons]
theorem T0 {h : Hp} {n id b : Nat} {m : List Sc} (hm : eF h id b (m.map ev)) (s : List UInt8) : Rd (iN env 115 (.map id) (.str s) false) h n [id] (.int .i64 (gQ s m)) := by
 have L := hm.lookup (n := n) IZ (I6 s) (evs s m) z2o
 cases hi : dB (isS s) (m.map ev) 0 with
 | none =>
  rw [hi] at L
  rw [(yT (v := 0) hi).2]
  exact L
 | some y =>
  obtain ⟨j, x⟩ := y
  rw [hi] at L
  obtain ⟨q, _, _, _, h4, _⟩ := yS (v := 0) hi
  rw [← h4]
  exact L
theorem k9 {h : Hp} {n id b : Nat} {m : List Sc} (hm : eF h id b (m.map ev)) (s : List UInt8) (v : Int) :
  ∃ h2, Wr (jS env 115 (.map id) (.str s) (.int .i64 (gQ s m + v))) h n [id] [id] undef h2 ∧ eF h2 id b ((gS s v m).map ev) ∧ ∀ j, j ≠ id → h2 j = h j := by
 cases hi : dB (isS s) (m.map ev) 0 with
 | none =>
  obtain ⟨e1, e2⟩ := yT (v := v) hi
  refine ⟨Go.Am.upd h id (some (.map (eW b (m.map ev) ++ [(.str s, .int .i64 (gQ s m + v), b + (m.map ev).length)]) (b + (m.map ev).length + 1))), ?_, ?_, fun j hj => aK _ _ hj⟩
  ·show Wr _ h n ([] ++ [id]) [id] undef _
   simp only [jS, IZ, aD]
   refine Wr.bind (Rd.get hm) ?_
   simp only [kY, I6, aD, lC _ b 0 (evs s m), hi]
   exact (Wr.set hm).ret
  ·unfold eF
   rw [aM, e1, e2, List.map_append, yE, List.length_append, Int.zero_add]
   rfl
 | some y =>
  obtain ⟨j, x⟩ := y
  obtain ⟨q, h1, h2, h3, h4, h5⟩ := yS (v := v) hi
  rw [Nat.zero_add] at h1
  subst h1
  have hg : (m.map ev)[j]? = some (.str s, .int .i64 (gQ s m)) := by rw [List.getElem?_map, h3]; rfl
  refine ⟨Go.Am.upd h id (some (.map (oT (eW b (m.map ev)) j (.int .i64 (gQ s m + v))) (b + (m.map ev).length))), ?_, ?_, fun j hj => aK _ _ hj⟩
  ·show Wr _ h n ([] ++ [id]) [id] undef _
   simp only [jS, IZ, aD]
   refine Wr.bind (Rd.get hm) ?_
   have hsk : jC (.str s) (.str s) = true := MF (by simp [isS])
   simp only [kY, I6, aD, lC _ b 0 (evs s m), hi, yD, hg, Option.map_some, fS, hsk]
   exact (Wr.set hm).ret
  ·unfold eF
   rw [aM, yC, h5]
   have : (m.modify j fun e => (e.1, e.2 + v)).map ev = (m.map ev).modify j fun e => (e.1, .int .i64 (gQ s m + v)) := by
    refine List.ext_getElem? fun k => ?_
    rw [List.getElem?_map, List.getElem?_modify, List.getElem?_modify, List.getElem?_map]
    by_cases c : j = k
    ·subst c
     rw [h3]; simp [ev]
    ·simp only [if_neg c]
     cases m[k]? <;> rfl
   rw [this, List.length_modify]
def iU (l : List Ver) : List Sc := l.foldl (fun m v => gS v.aI v.value m) []
def vO (m : List Sc) : Sc := m.foldl Ins.bet ([], -1)
def kJ (s : List UInt8) (m : List Sc) : List Sc := m.filter fun e => decide (e.1 ≠ s)
def iP : Nat → List Sc → List Sc
 | 0, _ => []
 | k + 1, m => match m with
  | [] => []
  | e :: m => vO (e :: m) :: iP k (kJ (vO (e :: m)).1 (e :: m))
theorem E5 : ∀ (m : List Sc) (b : Sc), m.foldl Ins.bet b = b ∨ m.foldl Ins.bet b ∈ m
 | [], b => .inl rfl
 | e :: m, b => by
  rw [List.foldl_cons]
  have hb : Ins.bet b e = e ∨ Ins.bet b e = b := by
   unfold Ins.bet
   split
   ·exact .inl rfl
   ·exact .inr rfl
  rcases E5 m (Ins.bet b e) with q | q
  ·rw [q]
   rcases hb with r | r
   ·rw [r]; exact .inr (List.mem_cons_self ..)
   ·exact .inl r
  ·exact .inr (List.mem_cons_of_mem _ q)
theorem BA {m : List Sc} (hn : m ≠ []) (h0 : ∀ e ∈ m, 0 ≤ e.2) : vO m ∈ m := by
 cases m with
 | nil => exact absurd rfl hn
 | cons e m =>
  unfold vO
  rw [List.foldl_cons]
  have he : Ins.bet ([], -1) e = e := by
   have := h0 e (List.mem_cons_self ..)
   have c : iY (-1) e.2 < 0 := qN.2 (by omega)
   unfold Ins.bet Ins.kQ orI
   rw [if_neg (show ¬ iY (([], -1) : Sc).2 e.2 = 0 from fun q => by have q' : iY (-1) e.2 = 0 := q; omega), if_pos c]
  rw [he]
  rcases E5 m e with q | q
  ·rw [q]; exact List.mem_cons_self ..
  ·exact List.mem_cons_of_mem _ q
theorem I4 {s : List UInt8} {m : List Sc} (h : ∀ e ∈ m, e.1 ≠ s) : kJ s m = m := by
 unfold kJ
 rw [List.filter_eq_self]
 intro e he
 exact decide_eq_true (h e he)
theorem E8 {kt : TypeId} {k : a9} {p : a9 → Bool} : ∀ (es : List Ent) (i : Nat), (∀ e ∈ es, bU env kt k e.1 = M.pure (p e.1)) → lX env kt k es i = M.pure (dB p (es.map fun e => (e.1, e.2.1)) i)
 | [], _, _ => rfl
 | e :: es, i, h => by
  simp only [lX, h e (List.mem_cons_self ..), aD, List.map_cons, dB]
  cases p e.1 with
  | true => simp
  | false => simp only [Bool.false_eq_true]; exact E8 es (i + 1) fun e he => h e (List.mem_cons_of_mem _ he)
theorem PF {es : List Ent} {ck : Nat} (f : Ins.Fit es ck) (s : List UInt8) : ∀ e ∈ es, bU env 9 (.str s) e.1 = M.pure (isS s e.1) := fun e he => by
 rw [(f.e e he).1]
 exact PB s _
theorem EG {s : List UInt8} : ∀ {es : List Ent} {i : Nat}, (∀ x ∈ es, x.1 = .str (Ins.dec x).1) → ((es.map Ins.dec).map (·.1)).Nodup → (∃ x ∈ es, (Ins.dec x).1 = s) →
  ∃ q y, dB (isS s) (es.map fun e => (e.1, e.2.1)) i = some (i + q, y) ∧ q < es.length ∧ (es.eraseIdx q).map Ins.dec = kJ s (es.map Ins.dec)
 | [], i, _, _, h => by
  obtain ⟨x, hx, _⟩ := h
  cases hx
 | e :: es, i, hk, hd, h => by
  have he := hk e (List.mem_cons_self ..)
  rw [List.map_cons, List.map_cons, List.nodup_cons] at hd
  by_cases c : (Ins.dec e).1 = s
  ·refine ⟨0, e.2.1, ?_, by simp, ?_⟩
   ·simp only [List.map_cons, dB]
    rw [if_pos (by rw [he, c]; simp [isS])]; rfl
   ·rw [List.eraseIdx_cons_zero, List.map_cons]
    unfold kJ
    rw [List.filter_cons_of_neg (by simp [c])]
    have : kJ s (es.map Ins.dec) = es.map Ins.dec := I4 fun x hx q => hd.1 (by
     rw [c, ← q]
     exact List.mem_map.2 ⟨x, hx, rfl⟩)
    exact this.symm
  ·obtain ⟨q, y, h1, h2, h3⟩ := EG (i := i + 1) (fun x hx => hk x (List.mem_cons_of_mem _ hx)) hd.2 (by
    obtain ⟨x, hx, hs⟩ := h
    rcases List.mem_cons.1 hx with r | r
    ·rw [r] at hs; exact absurd hs c
    ·exact ⟨x, r, hs⟩)
   refine ⟨q + 1, y, ?_, by simpa using h2, ?_⟩
   ·simp only [List.map_cons, dB]
    have hne : ¬ s = (Ins.dec e).1 := fun w => c w.symm
    rw [if_neg (by rw [he]; simp [isS, hne]), h1]
    congr 2; omega
   ·rw [List.eraseIdx_cons_succ, List.map_cons, h3, List.map_cons]
    unfold kJ
    rw [List.filter_cons_of_pos (by simp [c])]
theorem T1 {h : Hp} {n id ck : Nat} {es : List Ent} (hm : h id = some (.map es ck)) (f : Ins.Fit es ck) (hd : ((es.map Ins.dec).map (·.1)).Nodup) {s : List UInt8} (hs : ∃ x ∈ es, (Ins.dec x).1 = s) :
  ∃ es2 h2, Wr (tX env [115, 9] (.map id) (.str s)) h n [id] [id] (a9.tup []) h2 ∧ h2 id = some (.map es2 ck) ∧ Ins.Fit es2 ck ∧ es2.map Ins.dec = kJ s (es.map Ins.dec) ∧ es2.length + 1 = es.length ∧ ∀ j, j ≠ id → h2 j = h j := by
 obtain ⟨q, y, h1, h2, h3⟩ := EG (i := 0) (fun x hx => (f.e x hx).1) hd hs
 rw [Nat.zero_add] at h1
 refine ⟨es.eraseIdx q, Go.Am.upd h id (some (.map (es.eraseIdx q) ck)), ?_, aM _ _ _, ⟨fun x hx => f.e x (List.mem_of_mem_eraseIdx hx), ?_⟩, h3, by rw [List.length_eraseIdx, if_pos h2]; omega, fun j hj => aK _ _ hj⟩
 ·show Wr _ h n ([] ++ [id]) [id] _ _
  simp only [tX, IZ, aD]
  refine Wr.bind (Rd.get hm) ?_
  simp only [kY, I6, aD, E8 es 0 (PF f s), h1]
  exact (Wr.set hm).ret
 ·have : ((es.eraseIdx q).map fun x => x.2.2).Sublist (es.map fun x => x.2.2) := (List.eraseIdx_sublist es q).map _
  exact this.nodup f.d
theorem rV {s : List UInt8} {m : List Sc} (h : (m.map (·.1)).Nodup) : ((kJ s m).map (·.1)).Nodup := ((List.filter_sublist (l := m)).map _).nodup h
theorem tC {s : List UInt8} {m : List Sc} (h : ∀ e ∈ m, 0 ≤ e.2) : ∀ e ∈ kJ s m, 0 ≤ e.2 := fun e he => h e (List.mem_filter.1 he).1
def RiL (h : Hp) (a b : Nat) (v : a9) (rs : List Sc) : Prop := ∃ cells, Lst h 41 2 v rs.length cells ∧ (∀ (j : Nat) (hj : j < rs.length), ∃ sv, (cells.drop (j * 2)).take 2 = [sv, .int .i64 rs[j].2] ∧ Bytes h sv rs[j].1 ∧ ∀ i, aT sv = some i → a ≤ i ∧ i < b ∧ aT v ≠ some i) ∧ ∀ j, aT v = some j → a ≤ j ∧ j < b
theorem RiL.aO {h h' : Hp} {a b : Nat} {v : a9} {rs : List Sc} (l : RiL h a b v rs) (hk : ∀ j, a ≤ j → j < b → h' j = h j) : RiL h' a b v rs := by
 obtain ⟨cells, c1, c2, c3⟩ := l
 refine ⟨cells, c1.aO fun j q => hk j (c3 j q).1 (c3 j q).2, fun j hj => ?_, c3⟩
 obtain ⟨sv, e, bs, d⟩ := c2 j hj
 exact ⟨sv, e, bs.aO fun i q => hk i (d i q).1 (d i q).2.1, d⟩
theorem RiL.wide {h : Hp} {a b c d : Nat} {v : a9} {rs : List Sc} (l : RiL h a b v rs) (h1 : c ≤ a) (h2 : b ≤ d) : RiL h c d v rs := by
 obtain ⟨cells, c1, c2, c3⟩ := l
 refine ⟨cells, c1, fun j hj => ?_, fun j q => by have := c3 j q; omega⟩
 obtain ⟨sv, e, bs, w⟩ := c2 j hj
 exact ⟨sv, e, bs, fun i q => ⟨by have := (w i q).1; omega, by have := (w i q).2.1; omega, (w i q).2.2⟩⟩
theorem RiL.nil {h : Hp} {a b : Nat} : RiL h a b .aL [] := ⟨[], .nil, fun j hj => by simp at hj, fun j q => by cases q⟩
theorem u36 : und env 36 = M.pure (.slice 41) := rfl
theorem z41 : sizeOf env 41 = M.pure 2 := rfl
theorem RiL.len {h : Hp} {a b : Nat} {v : a9} {rs : List Sc} (l : RiL h a b v rs) {ts : List TypeId} : cA env (36 :: ts) v = M.pure (.int .i64 (rs.length : Nat)) := by
 obtain ⟨cells, c1, c2, c3⟩ := l
 exact c1.rds.cA u36
theorem I2 {h : Hp} {n id ck : Nat} {es : List Ent} (hm : h id = some (.map es ck)) : Rd (cA env [115] (.map id)) h n ([] ++ [id]) (.int .i64 (es.length : Nat)) := by
 simp only [cA, IZ, aD]
 exact Rd.bind (Rd.get hm) (Rd.pure _)
theorem HG : ∀ (k : Nat) (h : Hp) (n : Nat), bB h n → Wp (Ins.DR k) h n fun _ h' n' => h' = h ∧ n' = n + k
 | 0, h, n, hf => aS.2 ⟨rfl, rfl⟩
 | k + 1, h, n, hf => by
  have e : upd (upd h n (some (.mC [] 0))) n none = h := by
   rw [wB]
   exact jB (hf n (Nat.le_refl _))
  unfold Ins.DR
  rw [fW, pY]
  refine ⟨by rw [aM]; simp, ?_⟩
  rw [e]
  refine cN (HG k h (n + 1) (fun j hj => hf j (by omega))) fun _ h' n' q => ⟨q.1, by rw [q.2]; omega⟩
theorem S5 (tm : List a9) (it mm ck : Nat) (es : List Ent) (s : List UInt8) (v : Int) (h : Hp) (n : Nat) (Q : eJ × List a9 → Hp → Nat → Prop) (hl : tm.length = 85) (h58 : tm[58]? = some (.ptr it 0)) (h14 : tm[14]? = some (.str s)) (h15 : tm[15]? = some (.int .i64 v))
  (g1 : h it = some (.gP mm ck [] ck)) (g2 : h mm = some (.map es ck)) (fit : Ins.Fit es ck) (itn : it < n) (mmn : mm < n) (hf : bB h n)
  (hQ : Q (.normal, Ins.II tm (Ins.CL es (s, v))) (upd h it none) (n + 1 + es.length)) : Wp (Ins.qD tm) h n Q := by
 have hl' : tm.length.beq 85 = true := by rw [hl]; rfl
 have e : upd (upd h n (some (.mC [] 0))) n none = h := by
  rw [wB]
  exact jB (hf n (Nat.le_refl _))
 unfold Ins.qD
 simp only [hl', h58, h14, h15]
 rw [eU]
 refine ⟨_, g1, ?_⟩
 simp only
 rw [eU]
 refine ⟨_, g2, ?_⟩
 simp only
 rw [fW, pY]
 refine ⟨by rw [aM]; simp, ?_⟩
 rw [e, if_pos ⟨fit, rfl, rfl, rfl, itn, mmn⟩]
 refine B4 (cN (HG es.length h (n + 1) (fun j hj => hf j (by omega))) fun _ h' n' q => ?_)
 obtain ⟨rfl, rfl⟩ := q
 rw [pY]
 exact ⟨by rw [g1]; simp, aS.2 hQ⟩
theorem rbk : fN env.bE 17 4 Ins.WV.c = some Ins.qD := Ins.sD Ins.WV _ rfl
theorem b41 (id len : Nat) (v : Int) : build env 41 [(0, .sl id 0 len none 1), (1, .int .i64 v)] = M.pure (.agg [.sl id 0 len none 1, .int .i64 v]) := rfl
theorem aX4 (x y : a9) (hx : dA x = false) (hc : x.cells = [x]) (hy : y.cells = [y]) (hj : dA y = false) : buildSlice env 36 1 [(0, .agg [x, y])] = (newRow env 41 [x, y]).bind fun id => M.pure (.sl id 0 1 (some 1) 2) := rfl
theorem ZF {l : List Ver} {i : Nat} (h : i < l.length) : iU (l.take (i + 1)) = gS l[i].aI l[i].value (iU (l.take i)) := by
 unfold iU
 rw [jO h, List.foldl_append]; rfl
theorem xY (s t : List UInt8) (v : Int) : ∀ m : List Sc, gQ t (gS s v m) = if t = s then gQ t m + v else gQ t m
 | [] => by
  by_cases c : t = s <;> simp [gS, gQ, c]
 | e :: m => by
  have ih := xY s t v m
  by_cases c : s = e.1
  ·simp only [gS, if_pos c, gQ]
   by_cases d : t = e.1
   ·rw [if_pos d, if_pos d, if_pos (by rw [c, d])]
   ·rw [if_neg d, if_neg d, if_neg (by rw [c]; exact d)]
  ·simp only [gS, if_neg c, gQ]
   by_cases d : t = e.1
   ·rw [if_pos d, if_pos d, if_neg (by rw [d]; exact fun q => c q.symm)]
   ·rw [if_neg d, if_neg d]
    exact ih
theorem IA (s : List UInt8) {M : Int} (hM : 0 ≤ M) : ∀ (l : List Ver), (∀ v ∈ l, 0 ≤ v.value ∧ v.value ≤ M) → ∀ (m : List Sc), 0 ≤ gQ s m → 0 ≤ gQ s (l.foldl (fun m v => gS v.aI v.value m) m) ∧ gQ s (l.foldl (fun m v => gS v.aI v.value m) m) ≤ gQ s m + M * (l.length : Nat)
 | [], _, m, h => ⟨h, by simp⟩
 | v :: l, hv, m, h => by
  obtain ⟨a, b⟩ := hv v (List.mem_cons_self ..)
  have g := xY v.aI s v.value m
  have hg : 0 ≤ gQ s (gS v.aI v.value m) ∧ gQ s (gS v.aI v.value m) ≤ gQ s m + M := by
   rw [g]
   split <;> omega
  obtain ⟨c, d⟩ := IA s hM l (fun w hw => hv w (List.mem_cons_of_mem _ hw)) _ hg.1
  refine ⟨c, Int.le_trans d ?_⟩
  rw [List.length_cons]
  have : M * ((l.length + 1 : Nat) : Int) = M * (l.length : Nat) + M := by rw [Int.natCast_add, Int.mul_add, Int.natCast_one, Int.mul_one]
  omega
theorem ZE (s : List UInt8) (l : List Ver) (hv : ∀ v ∈ l, 0 ≤ v.value ∧ v.value ≤ 2100000000000000) (hl : l.length ≤ 2000) : 0 ≤ gQ s (iU l) ∧ gQ s (iU l) ≤ 4200000000000000000 := by
 obtain ⟨a, b⟩ := IA s (M := 2100000000000000) (by decide) l hv [] (Int.le_refl _)
 refine ⟨a, Int.le_trans b ?_⟩
 have : gQ s [] = 0 := rfl
 omega
theorem O2 (Q : dG) (ks : List Kf) (v : a9) (s a b mid : Nat) (k z : Int) (l : List Ver) (h0 : Hp) (hl : l.length ≤ 1300) (hv : VL h0 a b v l) (hval : ∀ w ∈ l, 0 ≤ w.value ∧ w.value ≤ 2100000000000000) (hmid : mid < a) (hab : a ≤ b) (x0 : a9)
  (hT : ∀ (h : Hp) (n : Nat) (x9 x12 x13 x14 x15 x16 x17 x25 x33 x34 x35 x36 x56 x58 x60 x72 : a9), eF h mid 0 ((iU l).map ev) → b ≤ n → bB h n → (∀ j, j < mid → h j = h0 j) →
   cT env 17 none Q ks (.exit 0) (x0 :: .int .i64 k :: .int .i64 z :: a9.aA :: a9.aA :: a9.aA :: .aL :: .int .i64 0 :: a9.aA :: x9 :: .map mid :: a9.aA :: x12 :: x13 :: x14 :: x15 :: x16 :: x17 :: a9.aA :: a9.aA :: a9.aA :: a9.aA :: a9.aA :: a9.aA :: a9.aA :: x25 :: a9.aA :: a9.aA :: a9.aA :: a9.aA :: a9.aA :: a9.aA :: a9.aA :: x33 :: x34 :: x35 :: x36 :: a9.aA :: a9.aA :: a9.aA :: a9.aA :: a9.aA :: a9.aA :: a9.aA :: a9.aA :: a9.aA :: a9.aA :: a9.aA :: a9.aA :: a9.aA :: a9.aA :: a9.aA :: a9.aA :: a9.aA :: a9.aA :: a9.aA :: x56 :: a9.aA :: x58 :: a9.aA :: x60 :: a9.aA :: a9.aA :: a9.aA :: a9.aA :: a9.aA :: a9.aA :: a9.aA :: a9.aA :: a9.aA :: a9.aA :: a9.aA :: x72 :: a9.aA :: a9.aA :: a9.aA :: a9.aA :: a9.aA :: a9.aA :: a9.aA :: a9.aA :: a9.aA :: a9.aA :: a9.aA :: a9.aA :: []) h n) :
  ∀ (m i : Nat) (h : Hp) (n : Nat) (x9 x12 x13 x14 x15 x16 x17 x25 x36 x56 x58 x60 x72 : a9), i + m = l.length → eF h mid 0 ((iU (l.take i)).map ev) → b ≤ n → bB h n → (∀ j, j < b → j ≠ mid → h j = h0 j) →
   Run env 17 none Q (.loop BW) ks (x0 :: .int .i64 k :: .int .i64 z :: a9.aA :: a9.aA :: a9.aA :: .aL :: .int .i64 0 :: a9.aA :: x9 :: .map mid :: a9.aA :: x12 :: x13 :: x14 :: x15 :: x16 :: x17 :: a9.aA :: a9.aA :: a9.aA :: a9.aA :: a9.aA :: a9.aA :: a9.aA :: x25 :: a9.aA :: a9.aA :: a9.aA :: a9.aA :: a9.aA :: a9.aA :: a9.aA :: v :: .int .i64 (l.length : Nat) :: .int .i64 (i : Nat) :: x36 :: a9.aA :: a9.aA :: a9.aA :: a9.aA :: a9.aA :: a9.aA :: a9.aA :: a9.aA :: a9.aA :: a9.aA :: a9.aA :: a9.aA :: a9.aA :: a9.aA :: a9.aA :: a9.aA :: a9.aA :: a9.aA :: a9.aA :: x56 :: a9.aA :: x58 :: a9.aA :: x60 :: a9.aA :: a9.aA :: a9.aA :: a9.aA :: a9.aA :: a9.aA :: a9.aA :: a9.aA :: a9.aA :: a9.aA :: a9.aA :: x72 :: a9.aA :: a9.aA :: a9.aA :: a9.aA :: a9.aA :: a9.aA :: a9.aA :: a9.aA :: a9.aA :: a9.aA :: a9.aA :: a9.aA :: []) h n := by
 intro m
 induction m with
 | zero =>
  intro i h n x9 x12 x13 x14 x15 x16 x17 x25 x36 x56 x58 x60 x72 hm hmp hn hf ho
  have : i = l.length := by omega
  subst this
  rw [bT]
  have hcc : ¬ (((l.length : Nat) : Int) < ((l.length : Nat) : Int)) := by omega
  simp only [BW, bD, Try.f17, Option.getD_some, fgr, bor, Int.reduceNeg, List.getD_cons_zero, hcc, gE]
  rw [List.take_length] at hmp
  exact hT h n _ _ _ _ _ _ _ _ _ _ _ _ _ _ _ _ hmp hn hf fun j hj => ho j (by omega) (by omega)
 | succ m ih =>
  intro i h n x9 x12 x13 x14 x15 x16 x17 x25 x36 x56 x58 x60 x72 hm hmp hn hf ho
  have hil : i < l.length := by omega
  have hcc : (((i : Nat) : Int) < ((l.length : Nat) : Int)) := by omega
  have w1 : IntKind.i64.wrap (((i : Nat) : Int) + 1) = ((i + 1 : Nat) : Int) := by rw [w64 (by omega) (by omega)]; omega
  have hv1 : VL h a b v l := hv.aO fun j q1 q2 => ho j q2 (by omega)
  obtain ⟨sw, va⟩ := hv1.at_ hil
  have kd := va.s.kind
  have hs := ZF hil
  have hw := hval _ (List.getElem_mem hil)
  have hle := ZE l[i].aI (l.take i) (fun w q => hval w (List.mem_of_mem_take q)) (by rw [List.length_take]; omega)
  have w2 : IntKind.i64.wrap (gQ l[i].aI (iU (l.take i)) + l[i].value) = gQ l[i].aI (iU (l.take i)) + l[i].value := w64 (by omega) (by omega)
  rw [bT]
  simp only [BW, bD, Try.f17, Option.getD_some, fgr, bor, Int.reduceNeg, List.getD_cons_zero, hcc, gE]
  rw [aH (hv1.idx hil)]
  simp only [gE]
  rw [aH (va.all n)]
  simp only [gE]
  rw [cC eR rfl]
  simp only [cel, gE]
  refine dF (v := .agg (aN l[i] sw)) eR rfl (bR va.ok.h va.ok.b) (cU kd.2.1) hf fun H1 r1 p1 f1 => ?_
  replace r1 : Row H1 n (aN l[i] sw) := r1
  have m1 : eF H1 mid 0 ((iU (l.take i)).map ev) := hmp.aO (p1 mid (by omega))
  have s1 : Bytes H1 sw l[i].aI := va.s.aO fun j q => p1 j (by have := va.sn j q; omega)
  simp only [tyr, fgr, aR, gE]
  rw [aH (j4 r1 va.ok)]
  simp only [gE]
  rw [aH (s1.wW t29 t9 t5)]
  simp only [gE]
  rw [aH (T0 m1 l[i].aI)]
  simp only [tyr, aR, gE]
  rw [aH (mU r1 va.ok)]
  obtain ⟨h2, wr, m2, o2⟩ := k9 (n := n + 1) m1 l[i].aI l[i].value
  simp only [bor, bZ, w2, gE]
  rw [dE wr]
  simp only [fgr, bor, bZ, w1, gE]
  rw [← hs] at m2
  exact ih (i + 1) h2 (n + 1) _ _ _ _ _ _ _ _ _ _ _ _ _ (by omega) m2 (by omega) (fun j hj => by rw [o2 j (by omega)]; exact f1 j hj) (fun j q1 q2 => by rw [o2 j q2, p1 j (by omega), ho j q1 q2])
theorem O0 (Q : dG) (ks : List Kf) (mid : Nat) (k z : Int) (h0 : Hp) (x0 : a9) :
  ∀ (c : Nat) (es : List Ent) (ck : Nat) (out : List Sc) (u : a9) (h : Hp) (n : Nat) (x9 x12 x14 x15 x16 x17 x25 x33 x34 x35 x36 x56 x58 x60 x72 : a9), es.length = c → c + out.length ≤ 2000 → h mid = some (.map es ck) → Ins.Fit es ck → ((es.map Ins.dec).map (·.1)).Nodup → (∀ e ∈ es.map Ins.dec, 0 ≤ e.2) →
   RiL h (mid + 1) n u out → mid < n → bB h n → (∀ j, j < mid → h j = h0 j) →
   (∀ (h : Hp) (n : Nat) (u : a9) (x0 x1 x2 x9 x12 x14 x15 x16 x17 x25 x33 x34 x35 x36 x56 x58 x60 x72 : a9), RiL h (mid + 1) n u (out ++ iP (k.toNat - out.length) (es.map Ins.dec)) → mid < n → bB h n → (∀ j, j < mid → h j = h0 j) →
    cT env 17 none Q ks (.exit 2) (x0 :: x1 :: x2 :: a9.aA :: a9.aA :: a9.aA :: .aL :: .int .i64 0 :: a9.aA :: x9 :: .map mid :: a9.aA :: x12 :: u :: x14 :: x15 :: x16 :: x17 :: a9.aA :: a9.aA :: a9.aA :: a9.aA :: a9.aA :: a9.aA :: a9.aA :: x25 :: a9.aA :: a9.aA :: a9.aA :: a9.aA :: a9.aA :: a9.aA :: a9.aA :: x33 :: x34 :: x35 :: x36 :: a9.aA :: a9.aA :: a9.aA :: a9.aA :: a9.aA :: a9.aA :: a9.aA :: a9.aA :: a9.aA :: a9.aA :: a9.aA :: a9.aA :: a9.aA :: a9.aA :: a9.aA :: a9.aA :: a9.aA :: a9.aA :: a9.aA :: x56 :: a9.aA :: x58 :: a9.aA :: x60 :: a9.aA :: a9.aA :: a9.aA :: a9.aA :: a9.aA :: a9.aA :: a9.aA :: a9.aA :: a9.aA :: a9.aA :: a9.aA :: x72 :: a9.aA :: a9.aA :: a9.aA :: a9.aA :: a9.aA :: a9.aA :: a9.aA :: a9.aA :: a9.aA :: a9.aA :: a9.aA :: a9.aA :: []) h n) →
   Run env 17 none Q (.loop BV) ks (x0 :: .int .i64 k :: .int .i64 z :: a9.aA :: a9.aA :: a9.aA :: .aL :: .int .i64 0 :: a9.aA :: x9 :: .map mid :: a9.aA :: x12 :: u :: x14 :: x15 :: x16 :: x17 :: a9.aA :: a9.aA :: a9.aA :: a9.aA :: a9.aA :: a9.aA :: a9.aA :: x25 :: a9.aA :: a9.aA :: a9.aA :: a9.aA :: a9.aA :: a9.aA :: a9.aA :: x33 :: x34 :: x35 :: x36 :: a9.aA :: a9.aA :: a9.aA :: a9.aA :: a9.aA :: a9.aA :: a9.aA :: a9.aA :: a9.aA :: a9.aA :: a9.aA :: a9.aA :: a9.aA :: a9.aA :: a9.aA :: a9.aA :: a9.aA :: a9.aA :: a9.aA :: x56 :: a9.aA :: x58 :: a9.aA :: x60 :: a9.aA :: a9.aA :: a9.aA :: a9.aA :: a9.aA :: a9.aA :: a9.aA :: a9.aA :: a9.aA :: a9.aA :: a9.aA :: x72 :: a9.aA :: a9.aA :: a9.aA :: a9.aA :: a9.aA :: a9.aA :: a9.aA :: a9.aA :: a9.aA :: a9.aA :: a9.aA :: a9.aA :: []) h n := by
 intro c
 induction c with
 | zero =>
  intro es ck out u h n x9 x12 x14 x15 x16 x17 x25 x33 x34 x35 x36 x56 x58 x60 x72 hc hcl hm fit hnd hnn hu hmn hf ho hT
  rw [bT]
  simp only [BV, bD, Try.f17, Option.getD_some, builtin, Int.reduceNeg, List.getD_cons_zero, List.getD_cons_succ, gE]
  rw [aH (I2 hm)]
  simp only [fgr, bor, bH, Int.cast_ofNat_Int, Int.reduceLT, Int.reduceNeg, gt_iff_lt, hc, gE]
  have : es = [] := List.eq_nil_of_length_eq_zero hc
  subst this
  have e : iP (k.toNat - out.length) (([] : List Ent).map Ins.dec) = [] := by cases k.toNat - out.length <;> rfl
  rw [e, List.append_nil] at hT
  exact hT h n u _ _ _ _ _ _ _ _ _ _ _ _ _ _ _ _ _ _ hu hmn hf ho
 | succ c ih =>
  intro es ck out u h n x9 x12 x14 x15 x16 x17 x25 x33 x34 x35 x36 x56 x58 x60 x72 hc hcl hm fit hnd hnn hu hmn hf ho hT
  have hc0 : 0 < ((es.length : Nat) : Int) := by omega
  rw [bT]
  simp only [BV, bD, Try.f17, Option.getD_some, builtin, Int.reduceNeg, List.getD_cons_zero, List.getD_cons_succ, gE]
  rw [aH (I2 hm)]
  simp only [fgr, builtin, bor, bH, Int.reduceNeg, gt_iff_lt, hc0, hu.len, gE]
  by_cases hk : ((out.length : Nat) : Int) < k
  ·simp only [fgr, Int.reduceNeg, hk, gE]
   simp only [range, IZ, aD, HY]
   refine ⟨_, hm, ?_⟩
   simp only [nT]
   obtain ⟨H1, hH1⟩ : ∃ H1, H1 = upd h n (some (.gP mid ck [] ck)) := ⟨_, rfl⟩
   have g1 : H1 n = some (.gP mid ck [] ck) := by rw [hH1, aM]
   have o1 : ∀ j, j ≠ n → H1 j = h j := fun j hj => by rw [hH1, aK _ _ hj]
   have f1 : bB H1 (n + 1) := by rw [hH1]; exact hf.new
   rw [← hH1]
   clear hH1
   simp only [bK, fgr, bQ, put, aJ, Int.reduceNeg]
   refine JC rbk ?_
   refine S5 _ n mid ck es [] (-1) H1 (n + 1) _ rfl rfl rfl rfl g1 ((o1 mid (by omega)).trans hm) fit (by omega) (by omega) f1 ?_
   have hne : es.map Ins.dec ≠ [] := fun q => by
    have := congrArg List.length q
    rw [List.length_map] at this
    simp only [List.length_nil] at this
    omega
   have ert : iP (k.toNat - out.length) (es.map Ins.dec) = vO (es.map Ins.dec) :: iP (k.toNat - (out.length + 1)) (kJ (vO (es.map Ins.dec)).1 (es.map Ins.dec)) := by
    obtain ⟨j, hj⟩ : ∃ j, k.toNat - out.length = j + 1 := ⟨k.toNat - out.length - 1, by omega⟩
    rw [hj, show k.toNat - (out.length + 1) = j by omega]
    cases hm' : es.map Ins.dec with
    | nil => exact absurd hm' hne
    | cons e m => rfl
   have etop : Ins.CL es ([], -1) = vO (es.map Ins.dec) := rfl
   have tmem := BA hne hnn
   rw [ert] at hT
   generalize hr : vO (es.map Ins.dec) = r at *
   rw [etop]
   generalize hn2 : n + 1 + 1 + es.length = n2
   generalize hH2 : upd H1 n none = H2
   have o2 : ∀ j, j ≠ n → H2 j = h j := fun j hj => by rw [← hH2, aK _ _ hj, o1 j hj]
   have f2 : bB H2 n2 := by
    rw [← hH2]
    intro j hj
    rw [aK _ _ (by omega)]
    exact f1 j (by omega)
   have hm2 : H2 mid = some (.map es ck) := (o2 mid (by omega)).trans hm
   simp only [Ins.II, Ins.FV, Int.reduceNeg, gE]
   simp only [bK, tyr, und, sizeOf, mR, fR, cB, Int.reduceNeg, convert, pG]
   rw [zP]
   refine hG ti5 f2 (f := fun id => a9.sl id 0 r.1.length none 1) fun H3 r3 o3 f3 => ?_
   have b3 : Bytes H3 (.sl n2 0 r.1.length none 1) r.1 := Bytes.AK r3
   simp only [Int.reduceNeg, b41, aX4 (.sl n2 0 r.1.length none 1) (.int .i64 r.2) rfl rfl rfl rfl, gE]
   refine hG LN f3 (f := fun id => a9.sl id 0 1 (some 1) 2) fun H4 r4 o4 f4 => ?_
   have b4 := b3.aO (h' := H4) fun j q => o4 j (by injection q with q; omega)
   have hu4 : RiL H4 (mid + 1) n u out := hu.aO fun j q1 q2 => by rw [o4 j (by omega), o3 j (by omega), o2 j (by omega)]
   obtain ⟨cells, c1, c2, c3⟩ := hu4
   have hrw : Rds H4 2 (.sl (n2 + 1) 0 1 (some 1) 2) 1 [.sl n2 0 r.1.length none 1, .int .i64 r.2] := nO (cnt := 1) r4 rfl
   simp only [builtin, Int.reduceNeg, gE]
   refine fE (i := RK.i) (e := 41) c1 hrw u36 u36 LN rfl (by decide) (by show 2 * (out.length + 1) * 32 ≤ _; omega) (by omega) f4 ?_
   intro u5 h5 n5 hn5 f5 l5 i5 o5
   have hm5 : h5 mid = some (.map es ck) := by
    rw [o5 mid (by omega) (fun q => by have := c3 mid q; omega), o4 mid (by omega), o3 mid (by omega)]
    exact hm2
   obtain ⟨xm, hxm, hxr⟩ := List.mem_map.1 tmem
   obtain ⟨es6, h6, wr, m6, fit6, d6, l6, o6⟩ := T1 (n := n5) hm5 fit hnd (s := r.1) ⟨xm, hxm, by rw [hxr]⟩
   simp only [fgr, builtin, Int.reduceNeg, gE]
   rw [dE wr]
   simp only [bK, fgr, bQ, aJ, Int.reduceNeg]
   have id5 : ∀ j, aT u5 = some j → mid + 1 ≤ j ∧ j < n5 := fun j q => by
    rcases i5 with w | ⟨w, w2⟩
    ·rw [w] at q
     have := c3 j q
     omega
    ·rw [w] at q
     injection q with q
     omega
   have hne5 : ∀ j, j < n2 + 1 + 1 → aT u ≠ some j → aT u5 ≠ some j := fun j hj hn q => by
    rcases i5 with w | ⟨w, _⟩
    ·rw [w] at q; exact hn q
    ·rw [w] at q; injection q with q; omega
   have hu6 : RiL h6 (mid + 1) n5 u5 (out ++ [r]) := by
    have cl : cells.length = out.length * 2 := c1.rds.length
    refine ⟨cells ++ [.sl n2 0 r.1.length none 1, .int .i64 r.2], ?_, fun j hj => ?_, id5⟩
    ·rw [List.length_append]
     exact l5.aO fun j q => o6 j (by have := id5 j q; omega)
    ·by_cases hlt : j < out.length
     ·obtain ⟨sv, e, bs, d⟩ := c2 j hlt
      rw [List.getElem_append_left hlt]
      refine ⟨sv, ?_, bs.aO fun i q => ?_, fun i q => ?_⟩
      ·rw [List.drop_append_of_le_length (by omega), List.take_append_of_le_length (by rw [List.length_drop]; omega)]
       exact e
      ·have := d i q
       rw [o6 i (by omega), o5 i (by omega) this.2.2]
      ·have := d i q
       exact ⟨this.1, by omega, hne5 i (by omega) this.2.2⟩
     ·have : j = out.length := by rw [List.length_append, List.length_singleton] at hj; omega
      subst this
      rw [List.getElem_append_right (Nat.le_refl _)]
      simp only [Nat.sub_self, List.getElem_cons_zero]
      refine ⟨.sl n2 0 r.1.length none 1, ?_, b4.aO fun i q => ?_, fun i q => ?_⟩
      ·rw [← cl, List.drop_left]; rfl
      ·injection q with q
       subst q
       rw [o6 _ (by omega), o5 _ (by omega) (fun w => by have := c3 _ w; omega)]
      ·injection q with q
       subst q
       exact ⟨by omega, by omega, hne5 _ (by omega) (fun w => by have := c3 _ w; omega)⟩
   refine ih es6 ck (out ++ [r]) u5 h6 n5 _ _ _ _ _ _ _ _ _ _ _ _ _ _ _ (by omega) (by rw [List.length_append, List.length_singleton]; omega) m6 fit6 (by rw [d6]; exact rV hnd) (by rw [d6]; exact tC hnn) hu6 (by omega) (fun j hj => by rw [o6 j (by omega)]; exact f5 j hj) (fun j hj => ?_) ?_
   ·rw [o6 j (by omega), o5 j (by omega) (fun q => by have := c3 j q; omega), o4 j (by omega), o3 j (by omega), o2 j (by omega), ho j hj]
   ·rw [d6, List.length_append, List.length_singleton, List.append_assoc]
    exact hT
  ·simp only [bK, Int.reduceNeg, decide_false, hk]
   have e0 : k.toNat - out.length = 0 := by omega
   rw [e0, show iP 0 (es.map Ins.dec) = [] from rfl, List.append_nil] at hT
   exact hT h n u _ _ _ _ _ _ _ _ _ _ _ _ _ _ _ _ _ _ hu hmn hf ho
def mV (L : List Ver) (I : List Inf) (k z : Int) : List Sc := match kK I z with
 | some _ => iP k.toNat (iU (L.filter fun v => cI v z))
 | none => []
theorem EH : ∀ (m : List Sc) (b : Nat), (eW b (m.map ev)).map Ins.dec = m
 | [], _ => rfl
 | e :: m, b => by
  simp only [List.map_cons, eW]
  rw [EH m (b + 1)]; rfl
theorem E7 : ∀ (m : List Sc) (b ck : Nat), b + m.length ≤ ck → Ins.Fit (eW b (m.map ev)) ck ∧ ∀ x ∈ eW b (m.map ev), b ≤ x.2.2
 | [], b, ck, _ => ⟨⟨(fun x hx => nomatch hx), List.nodup_nil⟩, (fun x hx => nomatch hx)⟩
 | e :: m, b, ck, h => by
  rw [List.length_cons] at h
  obtain ⟨f, g⟩ := E7 m (b + 1) ck (by omega)
  simp only [List.map_cons, eW]
  refine ⟨⟨fun x hx => ?_, ?_⟩, fun x hx => ?_⟩
  ·rcases List.mem_cons.1 hx with rfl | q
   ·exact ⟨rfl, rfl, (show b < ck by omega)⟩
   ·exact f.e x q
  ·rw [List.map_cons, List.nodup_cons]
   refine ⟨fun q => ?_, f.d⟩
   obtain ⟨x, hx, hb⟩ := List.mem_map.1 q
   have := g x hx
   have hb' : x.2.2 = b := hb
   omega
  ·rcases List.mem_cons.1 hx with rfl | q
   ·exact Nat.le_refl _
   ·have := g x q; omega
theorem vA (s : List UInt8) (v : Int) : ∀ m : List Sc, (gS s v m).map (·.1) = if s ∈ m.map (·.1) then m.map (·.1) else m.map (·.1) ++ [s]
 | [] => rfl
 | e :: m => by
  have ih := vA s v m
  by_cases c : s = e.1
  ·simp [gS, c]
  ·have h1 : (gS s v (e :: m)) = e :: gS s v m := if_neg c
   rw [h1, List.map_cons, List.map_cons, ih]
   by_cases d : s ∈ m.map (·.1)
   ·rw [if_pos d, if_pos (List.mem_cons_of_mem _ d)]
   ·rw [if_neg d, if_neg fun w => (List.mem_cons.1 w).elim c d]; rfl
theorem HD {s : List UInt8} {v : Int} {m : List Sc} (h : (m.map (·.1)).Nodup) : ((gS s v m).map (·.1)).Nodup := by
 rw [vA]
 split
 ·exact h
 ·rename_i c
  rw [List.nodup_append]
  refine ⟨h, by simp, fun a ha b hb => ?_⟩
  rw [List.mem_singleton] at hb
  subst hb
  exact fun q => c (by rw [← q]; exact ha)
theorem IV {s : List UInt8} {v : Int} (hv : 0 ≤ v) : ∀ {m : List Sc}, (∀ e ∈ m, 0 ≤ e.2) → ∀ e ∈ gS s v m, 0 ≤ e.2
 | [], h, e, he => by
  rw [gS, List.mem_singleton] at he
  subst he; exact hv
 | x :: m, h, e, he => by
  have hx := h x (List.mem_cons_self ..)
  unfold gS at he
  split at he
  ·rcases List.mem_cons.1 he with rfl | q
   ·show 0 ≤ x.2 + v
    omega
   ·exact h e (List.mem_cons_of_mem _ q)
  ·rcases List.mem_cons.1 he with rfl | q
   ·exact hx
   ·exact IV hv (fun y hy => h y (List.mem_cons_of_mem _ hy)) e q
end Go.Am.Ytlgebaofkolkoaa
set_option linter.unusedSimpArgs false
set_option linter.unusedVariables false
set_option linter.defProp false
set_option maxRecDepth 10000
namespace Go.Am.Ytlgebaofkolkoaa
open Go Go.Am Go.Proofs
theorem C6 : ∀ (l : List Ver) (m : List Sc), (∀ v ∈ l, 0 ≤ v.value) → (m.map (·.1)).Nodup → (∀ e ∈ m, 0 ≤ e.2) →
  ((l.foldl (fun m v => gS v.aI v.value m) m).map (·.1)).Nodup ∧ (∀ e ∈ l.foldl (fun m v => gS v.aI v.value m) m, 0 ≤ e.2) ∧ (l.foldl (fun m v => gS v.aI v.value m) m).length ≤ m.length + l.length
 | [], m, _, h1, h2 => ⟨h1, h2, Nat.le_refl _⟩
 | v :: l, m, hv, h1, h2 => by
  obtain ⟨a, b, c⟩ := C6 l (gS v.aI v.value m) (fun w hw => hv w (List.mem_cons_of_mem _ hw)) (HD h1) (IV (hv v (List.mem_cons_self ..)) h2)
  refine ⟨a, b, ?_⟩
  have hl : (gS v.aI v.value m).length ≤ m.length + 1 := by
   have := congrArg List.length (vA v.aI v.value m)
   rw [List.length_map] at this
   rw [this]
   split
   ·rw [List.length_map]; omega
   ·rw [List.length_append, List.length_map]; simp
  have c' : (l.foldl (fun m v => gS v.aI v.value m) (gS v.aI v.value m)).length ≤ (gS v.aI v.value m).length + l.length := c
  rw [List.foldl_cons, List.length_cons]
  omega
theorem f17 {W : Nat → Prop} {h : Hp} {n s : Nat} {L : List Ver} {I : List Inf} (q : St W h n s L I) (k z : Int) (hI : I.length ≤ 900000) (hL : L.length ≤ 1300) (hval : ∀ v ∈ L, 0 ≤ v.value ∧ v.value ≤ 2100000000000000) (hf : bB h n) :
  Wp (aQ env (aE env) 17 [.ptr s 0, .int .i64 k, .int .i64 z]) h n fun v' h' n' => Old h h' n ∧ ∃ u, v' = .tup [u, .int .i64 (vT (kK I z))] ∧ RiL h' n n' u (mV L I k z) := by
 refine aW au8 ap9 ?_
 simp only [K8, Try.f17, Option.getD_some, List.replicate, fgr, hkr, Nat.reduceAdd, Nat.reduceSub, Int.reduceNeg, gE]
 refine aU hf (f25 q z (by omega) hf) fun v3 h3 n3 hn3 f3 ⟨e3, ob3, o3⟩ => ?_
 subst e3
 have q3 := q.old hn3 o3
 simp only [Int.reduceNeg, gE]
 rw [cC gV rfl]
 simp only [cel, Int.reduceNeg, gE]
 refine dF (v := .agg (bL ((kK I z).getD gH))) gV rfl (bX ob3) (eN _) f3 fun H4 r4 o4 f4 => ?_
 have O4 : Old h3 H4 n3 := fun j hj => o4 j (by omega)
 have q4 := q3.old (n' := n3 + 1) (by omega) O4
 have OO4 : Old h H4 n := fun j hj => by rw [O4 j (by omega), o3 j hj]
 cases hi : kK I z with
 | none =>
  have hc : mV L I k z = [] := by unfold mV; rw [hi]
  rw [hc]
  simp only [fgr, bor, Int.reduceEq, Int.reduceNeg, vT, gE]
  exact ⟨OO4, _, rfl, .nil⟩
 | some i0 =>
  have hc : mV L I k z = iP k.toNat (iU (L.filter fun v => cI v z)) := by unfold mV; rw [hi]
  rw [hc]
  simp only [tyr, fgr, opt, bor, aR, Int.reduceNeg, vT, pD, nT, gE]
  obtain ⟨H5, hH5⟩ : ∃ H5, H5 = upd H4 (n3 + 1) (some (.map [] 0)) := ⟨_, rfl⟩
  have g5 : H5 (n3 + 1) = some (.map [] 0) := by rw [hH5, aM]
  have o5 : ∀ j, j ≠ n3 + 1 → H5 j = H4 j := fun j hj => by rw [hH5, aK _ _ hj]
  have f5 : bB H5 (n3 + 1 + 1) := by rw [hH5]; exact f4.new
  rw [← hH5]
  clear hH5
  have q5 := q4.old (n' := n3 + 1 + 1) (by omega) (h' := H5) fun j hj => o5 j (by omega)
  have OO5 : Old h H5 n := fun j hj => by rw [o5 j (by omega), OO4 j hj]
  obtain ⟨x, lv, rs, ix, il, sa, sb, sc⟩ := q5
  rw [aH (rs.one (off := 0) rfl sL rfl)]
  simp only [hkr, Int.reduceNeg, gE]
  refine aU f5 (aW1 z ix.k (by omega) f5) fun v6 h6 n6 hn6 f6 ⟨l6, o6⟩ => ?_
  generalize hl : (L.filter fun v => cI v z) = l at *
  have ll : l.length ≤ 1300 := by rw [← hl]; exact Nat.le_trans (List.length_filter_le _ _) hL
  have lval : ∀ w ∈ l, 0 ≤ w.value ∧ w.value ≤ 2100000000000000 := fun w hw => by
   rw [← hl] at hw
   exact hval w (List.mem_filter.1 hw).1
  have g6 : eF h6 (n3 + 1) 0 ((iU (l.take 0)).map ev) := (o6 _ (by omega)).trans g5
  simp only [fgr, builtin, Int.reduceNeg, l6.len, gE]
  refine O2 _ _ v6 s (n3 + 1 + 1) n6 (n3 + 1) k z l h6 ll l6 lval (by omega) hn6 _ ?_ l.length 0 h6 n6 _ _ _ _ _ _ _ _ _ _ _ _ _ (by omega) g6 (Nat.le_refl _) f6 (fun j _ _ => rfl)
  intro h7 n7 x9 x12 x13 x14 x15 x16 x17 x25 x33 x34 x35 x36 x56 x58 x60 x72 m7 hn7 f7 o7
  obtain ⟨nd7, nn7, ln7⟩ := C6 l [] (fun w hw => (lval w hw).1) List.nodup_nil (fun e he => by cases he)
  have m7' : h7 (n3 + 1) = some (.map (eW 0 ((iU l).map ev)) (0 + ((iU l).map ev).length)) := m7
  have hde : (eW 0 ((iU l).map ev)).map Ins.dec = iU l := EH _ _
  have hle : (eW 0 ((iU l).map ev)).length = (iU l).length := by rw [pM, List.length_map]
  have hfit := (E7 (iU l) 0 (0 + ((iU l).map ev).length) (by rw [List.length_map]; omega)).1
  have hlen7 : (iU l).length ≤ 1300 := by
   have : (iU l).length ≤ ([] : List Sc).length + l.length := ln7
   simp only [List.length_nil] at this
   omega
  simp only [fgr, Int.reduceNeg, gE]
  refine O0 _ _ (n3 + 1) k z h7 _ _ (eW 0 ((iU l).map ev)) _ [] .aL h7 n7 _ _ _ _ _ _ _ _ _ _ _ _ _ _ _ rfl (by rw [hle]; show _ + 0 ≤ _; omega) m7' hfit (by rw [hde]; exact nd7) (by rw [hde]; exact nn7) .nil (by omega) f7 (fun j _ => rfl) ?_
  intro h8 n8 u x0 x1 x2 x9 x12 x14 x15 x16 x17 x25 x33 x34 x35 x36 x56 x58 x60 x72 r8 hn8 f8 o8
  rw [hde] at r8
  simp only [fgr, gE]
  refine ⟨fun j hj => by rw [o8 j (by omega), o7 j (by omega), o6 j (by omega), OO5 j hj], u, rfl, ?_⟩
  exact RiL.wide r8 (by omega) (Nat.le_refl _)
structure RAt (h : Hp) (a b : Nat) (v : a9) (k : Nat) (e : Sc) (sv : a9) : Prop where
 bal : ∀ n, Rd (load env 2 (dM (k + 1) v)) h n (rid v) (.int .i64 e.2)
 aI : ∀ n, Rd (load env 29 (dM k v)) h n (rid v) sv
 mv : ∀ k m, aR m (dM k v) = M.pure (dM (k + m) v)
 s : Bytes h sv e.1
 sn : ∀ j, aT sv = some j → a ≤ j ∧ j < b
theorem RiL.at_ {h : Hp} {a b : Nat} {v : a9} {rs : List Sc} (l : RiL h a b v rs) {i : Nat} (hi : i < rs.length) : ∃ sv, RAt h a b v (i * 2) rs[i] sv := by
 obtain ⟨cells, c1, c2, c3⟩ := l
 obtain ⟨sv, e, bs, d⟩ := c2 i hi
 have hr := c1.rds
 have hl : i * 2 + 2 ≤ cells.length := by rw [show cells.length = rs.length * 2 from hr.length]; omega
 have one : ∀ k x, k < 2 → [sv, a9.int .i64 rs[i].2][k]? = some x → cells[i * 2 + k]? = some x := fun k x hk hx => by rw [vF e hk, hx]
 exact ⟨sv, fun n => hr.load ti2 rfl (one 1 _ (by omega) rfl), fun n => hr.load vP rfl (one 0 _ (by omega) rfl), fun k m => iL hr (by omega) k m, bs, fun j q => ⟨(d j q).1, (d j q).2.1⟩⟩
theorem RiL.idx {h : Hp} {a b : Nat} {v : a9} {rs : List Sc} (l : RiL h a b v rs) {i : Nat} (hi : i < rs.length) {h' : Hp} {n' : Nat} : Rd (indexAddr env 36 v (.int .i64 ((i : Nat) : Int))) h' n' [] (dM (i * 2) v) := by
 obtain ⟨cells, c1, c2, c3⟩ := l
 exact c1.rds.idx u36 z41 rfl hi
theorem YU (Q : dG) (ks : List Kf) (v w : a9) (a b c d : Nat) (rs : List Sc) (h : Hp) (n : Nat) (hl : rs.length ≤ 100000) (hv : RiL h a b v rs) (hw : RiL h c d w rs)
  (hT : ∀ (x1 x4 x5 x10 x14 x42 : a9), cT env 18 none Q ks (.exit 0) (v :: x1 :: a9.aA :: a9.aA :: x4 :: x5 :: a9.aA :: a9.aA :: a9.aA :: a9.aA :: x10 :: a9.aA :: a9.aA :: a9.aA :: x14 :: a9.aA :: a9.aA :: a9.aA :: a9.aA :: a9.aA :: a9.aA :: a9.aA :: a9.aA :: a9.aA :: a9.aA :: a9.aA :: a9.aA :: a9.aA :: a9.aA :: a9.aA :: a9.aA :: a9.aA :: a9.aA :: a9.aA :: a9.aA :: a9.aA :: a9.aA :: a9.aA :: a9.aA :: a9.aA :: a9.aA :: a9.aA :: x42 :: []) h n) :
  ∀ (m i : Nat) (x4 x10 x14 x42 : a9), i + m = rs.length → Run env 18 none Q (.loop G6) ks (v :: w :: a9.aA :: a9.aA :: x4 :: .int .i64 (i : Nat) :: a9.aA :: a9.aA :: a9.aA :: a9.aA :: x10 :: a9.aA :: a9.aA :: a9.aA :: x14 :: a9.aA :: a9.aA :: a9.aA :: a9.aA :: a9.aA :: a9.aA :: a9.aA :: a9.aA :: a9.aA :: a9.aA :: a9.aA :: a9.aA :: a9.aA :: a9.aA :: a9.aA :: a9.aA :: a9.aA :: a9.aA :: a9.aA :: a9.aA :: a9.aA :: a9.aA :: a9.aA :: a9.aA :: a9.aA :: a9.aA :: a9.aA :: x42 :: []) h n := by
 intro m
 induction m with
 | zero =>
  intro i x4 x10 x14 x42 hm
  have : i = rs.length := by omega
  subst this
  rw [bT]
  have hcc : ¬ (((rs.length : Nat) : Int) < ((rs.length : Nat) : Int)) := by omega
  simp only [G6, bD, Try.f18, Option.getD_some, fgr, builtin, bor, hv.len, List.getD_cons_zero, hcc, gE]
  exact hT _ _ _ _ _ _
 | succ m ih =>
  intro i x4 x10 x14 x42 hm
  have hil : i < rs.length := by omega
  have hcc : (((i : Nat) : Int) < ((rs.length : Nat) : Int)) := by omega
  have w1 : IntKind.i64.wrap (((i : Nat) : Int) + 1) = ((i + 1 : Nat) : Int) := by rw [w64 (by omega) (by omega)]; omega
  obtain ⟨sv, va⟩ := hv.at_ hil
  obtain ⟨sw, wa⟩ := hw.at_ hil
  rw [bT]
  simp only [G6, bD, Try.f18, Option.getD_some, fgr, builtin, bor, hv.len, List.getD_cons_zero, hcc, gE]
  refine c9 ⟨rfl, ?_⟩
  simp only [Nat.reduceAdd, gE]
  rw [aZ (hv.idx hil)]
  simp only [tyr, Nat.reduceAdd, va.mv, gE]
  rw [aZ (va.bal n)]
  simp only [Nat.reduceAdd, gE]
  rw [aZ (hw.idx hil)]
  simp only [tyr, Nat.reduceAdd, wa.mv, gE]
  rw [aZ (wa.bal n)]
  simp only [bor, Nat.reduceAdd, gE]
  rw [aZ (hv.idx hil)]
  simp only [tyr, Nat.reduceAdd, va.mv, gE]
  rw [aZ (va.aI n)]
  simp only [Nat.reduceAdd, gE]
  rw [aZ (va.s.wW t29 t9 t5)]
  simp only [Nat.reduceAdd, gE]
  rw [aZ (hw.idx hil)]
  simp only [tyr, Nat.reduceAdd, wa.mv, gE]
  rw [aZ (wa.aI n)]
  simp only [Nat.reduceAdd, gE]
  rw [aZ (wa.s.wW t29 t9 t5)]
  simp only [fgr, bor, bZ, strOp, bH, Nat.reduceAdd, gE]
  refine ⟨(by (try simp (disch := first | assumption | omega) only [cM, gF]); repeat' (first | rfl | exact (Bool.or_eq_true _ _).mpr (.inr rfl) | refine (Bool.and_eq_true _ _).mpr ⟨?_, ?_⟩)), ?_⟩
  simp only [w1]
  exact ih (i + 1) _ _ _ _ (by omega)
theorem f18 (v w : a9) (a b c d : Nat) (rs : List Sc) (h : Hp) (n : Nat) (hl : rs.length ≤ 100000) (hv : RiL h a b v rs) (hw : RiL h c d w rs) :
  Wp (aQ env (aE env) 18 [v, w]) h n fun v' h' n' => v' = .bool true ∧ h' = h ∧ n' = n := by
 refine aW aV3 aL5 ?_
 simp only [ac6, Try.f18, Option.getD_some, List.replicate, fgr, builtin, bor, Nat.reduceAdd, Nat.reduceSub, hv.len, hw.len, gE]
 refine YU _ _ v w a b c d rs h n hl hv hw ?_ rs.length 0 _ _ _ _ (by omega)
 intro x1 x4 x5 x10 x14 x42
 simp only [fgr, gE]
theorem Vs.sub {h : Hp} {D : Nat → Prop} {c : List a9} {l : List Ver} (a : Vs h D c l) {h' : Hp} {D' : Nat → Prop} (hd : ∀ j, D j → D' j) (hk : ∀ j, D j → h' j = h j) : Vs h' D' c l := a.mono hd hk
theorem DF : ∀ (k : Nat) (m : List Sc), (iP k m).length ≤ k
 | 0, _ => Nat.le_refl _
 | k + 1, [] => Nat.zero_le _
 | k + 1, e :: m => by
  rw [iP, List.length_cons]
  have := DF k (kJ (vO (e :: m)).1 (e :: m))
  omega
theorem NO {a b d : Sc} (h1 : ¬ Ins.kQ a b < 0) (h2 : ¬ Ins.kQ b d < 0) : ¬ Ins.kQ a d < 0 := fun h3 => by
 have q := Ins.BI
 have e1 := q.pW a b
 by_cases c : Ins.kQ b a = 0
 ·have := q.eqv b a d c
  omega
 ·exact h2 (q.lt b a d (by omega) h3)
theorem E6 : ∀ (m : List Sc) (b : Sc), (¬ Ins.kQ (m.foldl Ins.bet b) b < 0) ∧ ∀ e ∈ m, ¬ Ins.kQ (m.foldl Ins.bet b) e < 0
 | [], b => ⟨by show ¬ Ins.kQ b b < 0; rw [Ins.BI.refl]; omega, fun e he => nomatch he⟩
 | x :: m, b => by
  obtain ⟨h1, h2⟩ := E6 m (Ins.bet b x)
  rw [List.foldl_cons]
  have hb : ¬ Ins.kQ (Ins.bet b x) b < 0 ∧ ¬ Ins.kQ (Ins.bet b x) x < 0 := by
   have r1 := Ins.BI.refl b
   have r2 := Ins.BI.refl x
   have an := Ins.BI.pW b x
   unfold Ins.bet
   split
   ·exact ⟨by omega, by omega⟩
   ·rename_i c
    exact ⟨by omega, c⟩
  refine ⟨NO h1 hb.1, fun e he => ?_⟩
  rcases List.mem_cons.1 he with rfl | q
  ·exact NO h1 hb.2
  ·exact h2 e q
theorem RQ {m : List Sc} : ∀ e ∈ m, ¬ Ins.kQ (vO m) e < 0 := (E6 m _).2
theorem A4 : ∀ {m : List Sc} {r : Sc}, (m.map (·.1)).Nodup → r ∈ m → m.Perm (r :: kJ r.1 m)
 | x :: m, r, hn, hr => by
  rw [List.map_cons, List.nodup_cons] at hn
  by_cases c : x.1 = r.1
  ·have hx : r = x := by
    rcases List.mem_cons.1 hr with q | q
    ·exact q
    ·exact absurd (by rw [c]; exact List.mem_map.2 ⟨r, q, rfl⟩) hn.1
   subst hx
   unfold kJ
   rw [List.filter_cons_of_neg (by simp)]
   have : kJ r.1 m = m := I4 fun e he q => hn.1 (by rw [← q]; exact List.mem_map.2 ⟨e, he, rfl⟩)
   unfold kJ at this
   rw [this]
  ·have hr' : r ∈ m := by
    rcases List.mem_cons.1 hr with q | q
    ·exact absurd (by rw [q]) c
    ·exact q
   unfold kJ
   rw [List.filter_cons_of_pos (by simp [c])]
   exact ((A4 hn.2 hr').cons x).trans (List.Perm.swap ..)
def R9 (a b : Sc) : Prop := ¬ a.2 < b.2 ∧ (a.2 = b.2 → Go.Lib.compareBytes a.1 b.1 < 0)
theorem aw6 {a b : Sc} (h : 0 < Ins.kQ a b) : R9 a b := by
 unfold Ins.kQ orI at h
 split at h
 ·rename_i c
  have e := mI.1 c
  refine ⟨by omega, fun _ => ?_⟩
  have := wN a.1 b.1
  omega
 ·rename_i c
  refine ⟨fun q => ?_, fun q => absurd (mI.2 q) c⟩
  have := qN.2 q
  omega
theorem A2 : ∀ (k : Nat) (m : List Sc), (∀ e ∈ m, 0 ≤ e.2) → ∀ x ∈ iP k m, x ∈ m
 | 0, _, _, x, hx => nomatch hx
 | k + 1, [], _, x, hx => nomatch hx
 | k + 1, e :: m, h0, x, hx => by
  rw [iP] at hx
  rcases List.mem_cons.1 hx with rfl | q
  ·exact BA (by simp) h0
  ·exact (List.mem_filter.1 (A2 k _ (tC h0) x q)).1
theorem vE : ∀ (k : Nat) (m : List Sc), (m.map (·.1)).Nodup → (∀ e ∈ m, 0 ≤ e.2) → (iP k m).Pairwise R9
 | 0, _, _, _ => List.Pairwise.nil
 | k + 1, [], _, _ => List.Pairwise.nil
 | k + 1, e :: m, hn, h0 => by
  rw [iP, List.pairwise_cons]
  refine ⟨fun x hx => ?_, vE k _ (rV hn) (tC h0)⟩
  obtain ⟨x1, x2⟩ := List.mem_filter.1 (A2 k _ (tC h0) x hx)
  have hne : x.1 ≠ (vO (e :: m)).1 := of_decide_eq_true x2
  have h1 := RQ (m := e :: m) x x1
  have h2 : Ins.kQ (vO (e :: m)) x ≠ 0 := fun q => hne (by rw [Ins.IK q])
  exact aw6 (by omega)
theorem xD : ∀ (k : Nat) (m : List Sc), m.length ≤ k → (m.map (·.1)).Nodup → (∀ e ∈ m, 0 ≤ e.2) → (iP k m).Perm m
 | 0, m, hl, _, _ => by
  have : m = [] := List.eq_nil_of_length_eq_zero (by omega)
  subst this
  exact List.Perm.refl _
 | k + 1, [], _, _, _ => List.Perm.refl _
 | k + 1, e :: m, hl, hn, h0 => by
  rw [iP]
  have hp := A4 hn (BA (by simp) h0)
  have hlen := hp.length_eq
  rw [List.length_cons, List.length_cons] at hlen
  rw [List.length_cons] at hl
  exact ((xD k _ (by omega) (rV hn) (tC h0)).cons _).trans hp.symm
theorem xC : ∀ (j k : Nat) (m : List Sc), j ≤ k → iP j m = (iP k m).take j
 | 0, k, m, _ => by simp [iP]
 | j + 1, k + 1, [], _ => rfl
 | j + 1, k + 1, e :: m, h => by
  rw [iP, iP, List.take_succ_cons, xC j k _ (by omega)]
def iV : List Sc → Int
 | [] => 0
 | e :: m => e.2 + iV m
theorem J3 {a b : List Sc} (h : a.Perm b) : iV a = iV b := by
 induction h with
 | nil => rfl
 | cons x _ ih => simp only [iV, ih]
 | swap x y l => simp only [iV]; omega
 | trans _ _ ih1 ih2 => exact ih1.trans ih2
theorem wU : ∀ a b : List Sc, iV (a ++ b) = iV a + iV b
 | [], b => by simp [iV]
 | e :: a, b => by simp only [List.cons_append, iV, wU a b]; omega
theorem BC : ∀ {m : List Sc}, (∀ e ∈ m, 0 ≤ e.2) → 0 ≤ iV m
 | [], _ => Int.le_refl _
 | e :: m, h => by
  have := h e (List.mem_cons_self ..)
  have := BC fun x hx => h x (List.mem_cons_of_mem _ hx)
  simp only [iV]; omega
theorem D4 (s : List UInt8) (v : Int) : ∀ m : List Sc, iV (gS s v m) = iV m + v
 | [] => by simp [gS, iV]
 | e :: m => by
  unfold gS
  split
  ·simp only [iV]; omega
  ·simp only [iV, D4 s v m]; omega
theorem zW : ∀ (l : List Ver) (m : List Sc), iV (l.foldl (fun m v => gS v.aI v.value m) m) = iV m + lF l
 | [], m => by simp [lF]
 | v :: l, m => by rw [List.foldl_cons, zW l, D4]; simp only [lF]; omega
theorem M8 (l : List Ver) : iV (iU l) = lF l := by
 have := zW l []
 unfold iU
 rw [this]; simp [iV]
theorem AI (s : List UInt8) : ∀ (l : List Ver) (m : List Sc), gQ s (l.foldl (fun m v => gS v.aI v.value m) m) = gQ s m + lF (l.filter fun v => v.aI == s)
 | [], m => by simp [lF]
 | v :: l, m => by
  rw [List.foldl_cons, AI s l, xY, List.filter_cons]
  by_cases c : s = v.aI
  ·rw [if_pos c, if_pos (by rw [c]; simp)]
   simp only [lF]; omega
  ·have hb : (v.aI == s) = false := by
    rw [beq_eq_false_iff_ne]
    exact fun q => c q.symm
   rw [if_neg c, hb]; rfl
theorem D3 : ∀ (l : List Ver) (n : Int), Val l → 0 ≤ n → n + 2100000000000000 * (l.length : Nat) ≤ 9000000000000000000 → l.foldl (fun n v => qV (n + v.value)) n = n + lF l
 | [], n, _, _, _ => by simp [lF]
 | v :: l, n, h, h0, hb => by
  have hv := h v (List.mem_cons_self ..)
  rw [List.length_cons] at hb
  have e : qV (n + v.value) = n + v.value := w64 (by omega) (by omega)
  rw [List.foldl_cons, e, D3 l _ (fun w hw => h w (List.mem_cons_of_mem _ hw)) (by omega) (by omega)]
  simp only [lF]; omega
theorem E1 : ∀ {m : List Sc} {e : Sc}, (m.map (·.1)).Nodup → e ∈ m → gQ e.1 m = e.2
 | x :: m, e, hn, he => by
  rw [List.map_cons, List.nodup_cons] at hn
  unfold gQ
  rcases List.mem_cons.1 he with rfl | q
  ·rw [if_pos rfl]
  ·rw [if_neg (fun w => hn.1 (by rw [← w]; exact List.mem_map.2 ⟨e, q, rfl⟩))]
   exact E1 hn.2 q
theorem xS : ∀ {a b : List UInt8}, Go.Lib.compareBytes a b < 0 → Go.Op.bytesLess a b = true
 | [], [], h => by simp [Go.Lib.compareBytes] at h
 | [], _ :: _, _ => by simp [Go.Op.bytesLess]
 | _ :: _, [], h => by simp [Go.Lib.compareBytes] at h
 | x :: a, y :: b, h => by
  simp only [Go.Lib.compareBytes] at h
  simp only [Go.Op.bytesLess]
  by_cases c : x < y
  ·simp [c]
  ·rw [if_neg c] at h
   by_cases d : y < x
   ·rw [if_pos d] at h; omega
   ·rw [if_neg d] at h
    have ih := xS h
    have e : x = y := by
     apply UInt8.toNat_inj.1
     rw [UInt8.lt_iff_toNat_lt] at *; omega
    subst e
    simp [ih]
structure V6 (L : List Ver) (I : List Inf) (rs : List Sc) (z eZ : Int) : Prop where
 f : rs.Pairwise R9
 b : ∀ e ∈ rs, zQ L I e.1 z = e.2
 s : iV rs = eZ
 nn : ∀ e ∈ rs, 0 ≤ e.2
 t : eZ ≤ 2100000000000000
theorem al5 {L : List Ver} {I : List Inf} (s : Sto L I 30) {j : Nat} (hj : j < I.length) : ∃ i0, kK I ((j : Nat) : Int) = some i0 ∧ i0.bJ = ((j : Nat) : Int) ∧ V6 L I (mV L I 1000 ((j : Nat) : Int)) ((j : Nat) : Int) i0.eZ ∧ mV L I 2 ((j : Nat) : Int) = (mV L I 1000 ((j : Nat) : Int)).take 2 := by
 have ei := s.l.find hj
 have hn := s.n
 have hval : Val L := fun v hv => ⟨(s.i.f v hv).v0, (s.i.f v hv).v1⟩
 obtain ⟨t1, t2⟩ := s.t j hj
 have e1 : ∀ k, mV L I k ((j : Nat) : Int) = iP k.toNat (iU (L.filter fun v => cI v ((j : Nat) : Int))) := fun k => by unfold mV; rw [ei]
 refine ⟨I[j], ei, s.l j hj, ?_, by rw [e1, e1]; exact xC 2 1000 _ (by decide)⟩
 rw [e1, show Int.toNat 1000 = 1000 from rfl]
 unfold atS at t1
 have hbal : ∀ sc, zQ L I sc ((j : Nat) : Int) = gQ sc (iU (L.filter fun v => cI v ((j : Nat) : Int))) := fun sc => by
  unfold zQ iU
  rw [ei, AI]
  simp only
  unfold z8
  have hlo : (ofV L sc ((j : Nat) : Int)).length ≤ 600 := Nat.le_trans (List.length_filter_le _ _) hn
  rw [D3 (ofV L sc ((j : Nat) : Int)) 0 (fun v hv => hval v (List.mem_filter.1 hv).1) (Int.le_refl _) (by omega)]
  unfold ofV
  rw [List.filter_filter]
  rfl
 generalize hl : (L.filter fun v => cI v ((j : Nat) : Int)) = l at *
 have lval : Val l := fun v hv => by
  rw [← hl] at hv
  exact hval v (List.mem_filter.1 hv).1
 have ll : l.length ≤ 600 := by rw [← hl]; exact Nat.le_trans (List.length_filter_le _ _) hn
 obtain ⟨nd, nn, ln⟩ := C6 l [] (fun v hv => (lval v hv).1) List.nodup_nil (fun e he => nomatch he)
 have lm : (iU l).length ≤ 1000 := by
  have : (iU l).length ≤ ([] : List Sc).length + l.length := ln
  simp only [List.length_nil] at this
  omega
 have hp := xD 1000 (iU l) lm nd nn
 exact ⟨vE 1000 (iU l) nd nn, fun e he => by rw [hbal]; exact E1 nd (hp.mem_iff.1 he), by rw [J3 hp, M8, t1], fun e he => nn e (hp.mem_iff.1 he), t2⟩
theorem HP {rs : List Sc} (h : ∀ e ∈ rs, 0 ≤ e.2) (k : Nat) : 0 ≤ iV (rs.take k) ∧ iV (rs.take k) ≤ iV rs := by
 have e := wU (rs.take k) (rs.drop k)
 rw [List.take_append_drop] at e
 have h1 := BC (m := rs.take k) fun x hx => h x (List.mem_of_mem_take hx)
 have h2 := BC (m := rs.drop k) fun x hx => h x (List.mem_of_mem_drop hx)
 exact ⟨h1, by omega⟩
theorem O6 (Q : dG) (ks : List Kf) (W : Nat → Prop) (s c6 n0 b0 : Nat) (z eZ : Int) (u x0 : a9) (L : List Ver) (I : List Inf) (rs : List Sc) (h0 : Hp) (hu : RiL h0 b0 n0 u rs) (hL : L.length ≤ 900000) (hI : I.length ≤ 900000) (hl : rs.length ≤ 100000) (R : V6 L I rs z eZ) {i0 : Inf} (ei0 : kK I z = some i0)
  (hT : ∀ (h : Hp) (n : Nat) (x0 x2 x7 x9 x11 x12 x13 x14 x15 x23 x30 x61 x63 x64 x65 x128 x156 : a9), St W h n s L I → n0 ≤ n → bB h n → Old h0 h n0 →
   cT env 11 none Q ks (.exit 2) (x0 :: a9.aA :: x2 :: .bool true :: .ptr s 0 :: .int .i64 z :: .ptr c6 0 :: x7 :: u :: x9 :: .int .i64 eZ :: x11 :: x12 :: x13 :: x14 :: x15 :: a9.aA :: a9.aA :: a9.aA :: a9.aA :: a9.aA :: a9.aA :: a9.aA :: x23 :: a9.aA :: a9.aA :: a9.aA :: a9.aA :: a9.aA :: a9.aA :: x30 :: a9.aA :: a9.aA :: a9.aA :: a9.aA :: a9.aA :: a9.aA :: a9.aA :: a9.aA :: a9.aA :: a9.aA :: a9.aA :: a9.aA :: a9.aA :: a9.aA :: a9.aA :: a9.aA :: a9.aA :: a9.aA :: a9.aA :: a9.aA :: a9.aA :: a9.aA :: a9.aA :: a9.aA :: a9.aA :: a9.aA :: a9.aA :: a9.aA :: a9.aA :: a9.aA :: x61 :: a9.aA :: x63 :: x64 :: x65 :: a9.aA :: a9.aA :: a9.aA :: a9.aA :: a9.aA :: a9.aA :: a9.aA :: a9.aA :: a9.aA :: a9.aA :: a9.aA :: a9.aA :: a9.aA :: a9.aA :: a9.aA :: a9.aA :: a9.aA :: a9.aA :: a9.aA :: a9.aA :: a9.aA :: a9.aA :: a9.aA :: a9.aA :: a9.aA :: a9.aA :: a9.aA :: a9.aA :: a9.aA :: a9.aA :: a9.aA :: a9.aA :: a9.aA :: a9.aA :: a9.aA :: a9.aA :: a9.aA :: a9.aA :: a9.aA :: a9.aA :: a9.aA :: a9.aA :: a9.aA :: a9.aA :: a9.aA :: a9.aA :: a9.aA :: a9.aA :: a9.aA :: a9.aA :: a9.aA :: a9.aA :: a9.aA :: a9.aA :: a9.aA :: a9.aA :: a9.aA :: a9.aA :: a9.aA :: a9.aA :: a9.aA :: a9.aA :: x128 :: a9.aA :: a9.aA :: a9.aA :: a9.aA :: a9.aA :: a9.aA :: a9.aA :: a9.aA :: a9.aA :: a9.aA :: a9.aA :: a9.aA :: a9.aA :: a9.aA :: a9.aA :: a9.aA :: a9.aA :: a9.aA :: a9.aA :: a9.aA :: a9.aA :: a9.aA :: a9.aA :: a9.aA :: a9.aA :: a9.aA :: a9.aA :: x156 :: a9.aA :: []) h n) :
  ∀ (m k : Nat) (h : Hp) (n : Nat) (x0 x2 x7 x9 x11 x12 x13 x14 x15 x23 x30 x61 x65 x128 x156 : a9), k + m = rs.length → St W h n s L I → n0 ≤ n → bB h n → Old h0 h n0 →
   Run env 11 none Q (.loop BX) ks (x0 :: a9.aA :: x2 :: .bool true :: .ptr s 0 :: .int .i64 z :: .ptr c6 0 :: x7 :: u :: x9 :: .int .i64 (iV (rs.take k)) :: x11 :: x12 :: x13 :: x14 :: x15 :: a9.aA :: a9.aA :: a9.aA :: a9.aA :: a9.aA :: a9.aA :: a9.aA :: x23 :: a9.aA :: a9.aA :: a9.aA :: a9.aA :: a9.aA :: a9.aA :: x30 :: a9.aA :: a9.aA :: a9.aA :: a9.aA :: a9.aA :: a9.aA :: a9.aA :: a9.aA :: a9.aA :: a9.aA :: a9.aA :: a9.aA :: a9.aA :: a9.aA :: a9.aA :: a9.aA :: a9.aA :: a9.aA :: a9.aA :: a9.aA :: a9.aA :: a9.aA :: a9.aA :: a9.aA :: a9.aA :: a9.aA :: a9.aA :: a9.aA :: a9.aA :: a9.aA :: x61 :: a9.aA :: .int .i64 (rs.length : Nat) :: .int .i64 (k : Nat) :: x65 :: a9.aA :: a9.aA :: a9.aA :: a9.aA :: a9.aA :: a9.aA :: a9.aA :: a9.aA :: a9.aA :: a9.aA :: a9.aA :: a9.aA :: a9.aA :: a9.aA :: a9.aA :: a9.aA :: a9.aA :: a9.aA :: a9.aA :: a9.aA :: a9.aA :: a9.aA :: a9.aA :: a9.aA :: a9.aA :: a9.aA :: a9.aA :: a9.aA :: a9.aA :: a9.aA :: a9.aA :: a9.aA :: a9.aA :: a9.aA :: a9.aA :: a9.aA :: a9.aA :: a9.aA :: a9.aA :: a9.aA :: a9.aA :: a9.aA :: a9.aA :: a9.aA :: a9.aA :: a9.aA :: a9.aA :: a9.aA :: a9.aA :: a9.aA :: a9.aA :: a9.aA :: a9.aA :: a9.aA :: a9.aA :: a9.aA :: a9.aA :: a9.aA :: a9.aA :: a9.aA :: a9.aA :: a9.aA :: x128 :: a9.aA :: a9.aA :: a9.aA :: a9.aA :: a9.aA :: a9.aA :: a9.aA :: a9.aA :: a9.aA :: a9.aA :: a9.aA :: a9.aA :: a9.aA :: a9.aA :: a9.aA :: a9.aA :: a9.aA :: a9.aA :: a9.aA :: a9.aA :: a9.aA :: a9.aA :: a9.aA :: a9.aA :: a9.aA :: a9.aA :: a9.aA :: x156 :: a9.aA :: []) h n := by
 intro m
 induction m with
 | zero =>
  intro k h n x0 x2 x7 x9 x11 x12 x13 x14 x15 x23 x30 x61 x65 x128 x156 hm hs hn hf ho
  have : k = rs.length := by omega
  subst this
  rw [bT]
  have hcc : ¬ (((rs.length : Nat) : Int) < ((rs.length : Nat) : Int)) := by omega
  rw [List.take_length, R.s]
  simp only [BX, bD, Try.f11, Option.getD_some, fgr, bor, List.getD_cons_zero, List.getD_cons_succ, hcc, gE]
  exact hT h n _ _ _ _ _ _ _ _ _ _ _ _ _ _ _ _ _ hs hn hf ho
 | succ m ih =>
  intro k h n x0 x2 x7 x9 x11 x12 x13 x14 x15 x23 x30 x61 x65 x128 x156 hm hs hn hf ho
  have hil : k < rs.length := by omega
  have hcc : (((k : Nat) : Int) < ((rs.length : Nat) : Int)) := by omega
  have w1 : IntKind.i64.wrap (((k : Nat) : Int) + 1) = ((k + 1 : Nat) : Int) := by rw [w64 (by omega) (by omega)]; omega
  have hu1 : RiL h b0 n0 u rs := hu.aO fun j _ q => ho j q
  obtain ⟨sv, va⟩ := hu1.at_ hil
  have hst : iV (rs.take (k + 1)) = iV (rs.take k) + rs[k].2 := by
   rw [jO hil, wU]; simp [iV]
  have b1 := HP R.nn k
  have b2 := HP R.nn (k + 1)
  have b3 := R.t
  rw [R.s] at b1 b2
  have w2 : IntKind.i64.wrap (iV (rs.take k) + rs[k].2) = iV (rs.take (k + 1)) := by rw [hst, w64 (by omega) (by omega)]
  have hb := R.b _ (List.getElem_mem hil)
  have hE : vT (kK I z) = 0 := by rw [ei0]; rfl
  rw [bT]
  simp only [BX, bD, Try.f11, Option.getD_some, fgr, bor, List.getD_cons_zero, List.getD_cons_succ, hcc, gE]
  rw [aH (hu1.idx hil)]
  simp only [tyr, va.mv, gE]
  rw [aH (va.aI n)]
  simp only [hkr, gE]
  refine aU hf (f60 hs sv rs[k].1 z va.s (fun j q => by have := va.sn j q; omega) hI hL hf) fun v2 h2 n2 hn2 f2 ⟨e2, o2⟩ => ?_
  subst e2
  have s2 := hs.old hn2 o2
  have hu2 : RiL h2 b0 n0 u rs := hu1.aO fun j _ q => o2 j (by omega)
  obtain ⟨sw, wa⟩ := hu2.at_ hil
  have fin : ∀ (x0 x2 x7 x9 x11 x12 x13 x14 x15 x23 x30 x61 x65 x128 x156 : a9), Run env 11 none Q (.loop BX) ks (x0 :: a9.aA :: x2 :: .bool true :: .ptr s 0 :: .int .i64 z :: .ptr c6 0 :: x7 :: u :: x9 :: .int .i64 (iV (rs.take (k + 1))) :: x11 :: x12 :: x13 :: x14 :: x15 :: a9.aA :: a9.aA :: a9.aA :: a9.aA :: a9.aA :: a9.aA :: a9.aA :: x23 :: a9.aA :: a9.aA :: a9.aA :: a9.aA :: a9.aA :: a9.aA :: x30 :: a9.aA :: a9.aA :: a9.aA :: a9.aA :: a9.aA :: a9.aA :: a9.aA :: a9.aA :: a9.aA :: a9.aA :: a9.aA :: a9.aA :: a9.aA :: a9.aA :: a9.aA :: a9.aA :: a9.aA :: a9.aA :: a9.aA :: a9.aA :: a9.aA :: a9.aA :: a9.aA :: a9.aA :: a9.aA :: a9.aA :: a9.aA :: a9.aA :: a9.aA :: a9.aA :: x61 :: a9.aA :: .int .i64 (rs.length : Nat) :: .int .i64 ((k + 1 : Nat) : Int) :: x65 :: a9.aA :: a9.aA :: a9.aA :: a9.aA :: a9.aA :: a9.aA :: a9.aA :: a9.aA :: a9.aA :: a9.aA :: a9.aA :: a9.aA :: a9.aA :: a9.aA :: a9.aA :: a9.aA :: a9.aA :: a9.aA :: a9.aA :: a9.aA :: a9.aA :: a9.aA :: a9.aA :: a9.aA :: a9.aA :: a9.aA :: a9.aA :: a9.aA :: a9.aA :: a9.aA :: a9.aA :: a9.aA :: a9.aA :: a9.aA :: a9.aA :: a9.aA :: a9.aA :: a9.aA :: a9.aA :: a9.aA :: a9.aA :: a9.aA :: a9.aA :: a9.aA :: a9.aA :: a9.aA :: a9.aA :: a9.aA :: a9.aA :: a9.aA :: a9.aA :: a9.aA :: a9.aA :: a9.aA :: a9.aA :: a9.aA :: a9.aA :: a9.aA :: a9.aA :: a9.aA :: a9.aA :: a9.aA :: x128 :: a9.aA :: a9.aA :: a9.aA :: a9.aA :: a9.aA :: a9.aA :: a9.aA :: a9.aA :: a9.aA :: a9.aA :: a9.aA :: a9.aA :: a9.aA :: a9.aA :: a9.aA :: a9.aA :: a9.aA :: a9.aA :: a9.aA :: a9.aA :: a9.aA :: a9.aA :: a9.aA :: a9.aA :: a9.aA :: a9.aA :: a9.aA :: x156 :: a9.aA :: []) h2 n2 := fun x0 x2 x7 x9 x11 x12 x13 x14 x15 x23 x30 x61 x65 x128 x156 => ih (k + 1) h2 n2 _ _ _ _ _ _ _ _ _ _ _ _ _ _ _ (by omega) s2 (by omega) f2 (fun j q => by rw [o2 j (by omega), ho j q])
  simp only [fgr, hb, hE, gE]
  refine c9 ⟨rfl, ?_⟩
  simp only [bor, Nat.reduceAdd, gE]
  rw [aZ (hu2.idx hil)]
  simp only [tyr, Nat.reduceAdd, wa.mv, gE]
  rw [aZ (wa.bal n2)]
  by_cases k0 : k = 0
  ·have kc : ¬ 0 < ((k : Nat) : Int) := by omega
   simp only [fgr, bor, bZ, bH, Nat.reduceAdd, gt_iff_lt, kc, gE]
   refine ⟨(by (try simp (disch := first | assumption | omega) only [cM, gF]); repeat' (first | rfl | exact (Bool.or_eq_true _ _).mpr (.inr rfl) | refine (Bool.and_eq_true _ _).mpr ⟨?_, ?_⟩)), ?_⟩
   simp only [w1, w2]
   exact fin _ _ _ _ _ _ _ _ _ _ _ _ _ _ _
  ·have kc : 0 < ((k : Nat) : Int) := by omega
   have w3 : IntKind.i64.wrap (((k : Nat) : Int) - 1) = ((k - 1 : Nat) : Int) := by rw [w64 (by omega) (by omega)]; omega
   have hil2 : k - 1 < rs.length := by omega
   obtain ⟨sx, xa⟩ := hu2.at_ hil2
   obtain ⟨p1, p2⟩ := List.pairwise_iff_getElem.1 R.f (k - 1) k hil2 hil (by omega)
   simp only [bor, bZ, bH, Nat.reduceAdd, gt_iff_lt, kc, w3, gE]
   rw [aZ (hu2.idx hil2)]
   simp only [tyr, Nat.reduceAdd, xa.mv, gE]
   rw [aZ (xa.bal n2)]
   simp only [bor, bZ, Nat.reduceAdd, p1, w3, gE]
   rw [aZ (hu2.idx hil2)]
   simp only [tyr, Nat.reduceAdd, xa.mv, gE]
   rw [aZ (xa.bal n2)]
   by_cases c : rs[k - 1].2 = rs[k].2
   ·have hlt := xS (p2 c)
    simp only [bor, bZ, Nat.reduceAdd, c, w3, gE]
    rw [aZ (hu2.idx hil2)]
    simp only [tyr, Nat.reduceAdd, xa.mv, gE]
    rw [aZ (xa.aI n2)]
    simp only [Nat.reduceAdd, gE]
    rw [aZ (xa.s.wW t29 t9 t5)]
    simp only [Nat.reduceAdd, gE]
    rw [aZ (hu2.idx hil)]
    simp only [tyr, Nat.reduceAdd, wa.mv, gE]
    rw [aZ (wa.aI n2)]
    simp only [Nat.reduceAdd, gE]
    rw [aZ (wa.s.wW t29 t9 t5)]
    simp only [fgr, bor, bZ, strOp, bH, Nat.reduceAdd, hlt, gE]
    refine ⟨(by (try simp (disch := first | assumption | omega) only [cM, gF]); repeat' (first | rfl | exact (Bool.or_eq_true _ _).mpr (.inr rfl) | refine (Bool.and_eq_true _ _).mpr ⟨?_, ?_⟩)), ?_⟩
    simp only [w1, w2]
    exact fin _ _ _ _ _ _ _ _ _ _ _ _ _ _ _
   ·simp only [fgr, bor, bZ, bH, Nat.reduceAdd, c, gE]
    refine ⟨(by (try simp (disch := first | assumption | omega) only [cM, gF]); repeat' (first | rfl | exact (Bool.or_eq_true _ _).mpr (.inr rfl) | refine (Bool.and_eq_true _ _).mpr ⟨?_, ?_⟩)), ?_⟩
    simp only [w1, w2]
    exact fin _ _ _ _ _ _ _ _ _ _ _ _ _ _ _
theorem RiL.pre {h : Hp} {a b : Nat} {v : a9} {rs : List Sc} (l : RiL h a b v rs) {k : Nat} (hk : k ≤ rs.length) : RiL h a b (jK 0 k v) (rs.take k) := by
 obtain ⟨cells, c1, c2, c3⟩ := l
 have ow : ∀ j, aT (jK 0 k v) = some j → aT v = some j := fun j q => by
  cases v <;> first | exact q | cases q
 refine ⟨cells.take (k * 2), ?_, fun j hj => ?_, fun j q => c3 j (ow j q)⟩
 ·rw [List.length_take, Nat.min_eq_left hk]
  exact c1.pre hk
 ·rw [List.length_take] at hj
  obtain ⟨sv, e, bs, d⟩ := c2 j (by omega)
  rw [List.getElem_take]
  refine ⟨sv, ?_, bs, fun i q => ⟨(d i q).1, (d i q).2.1, fun w => (d i q).2.2 (ow i w)⟩⟩
  rw [List.drop_take, List.take_take, Nat.min_eq_left (by omega)]
  exact e
theorem O7 (Q : dG) (ks : List Kf) (W : Nat → Prop) (s n0 : Nat) (L : List Ver) (I : List Inf) (h0 : Hp) (hS : Sto L I 30)
  (hT : ∀ (h : Hp) (n : Nat) (x0 x2 x5 x6 x7 x8 x9 x10 x11 x12 x13 x14 x15 x23 x30 x61 x63 x64 x65 x128 x156 : a9), bB h n → cT env 11 none Q ks (.exit 0) (x0 :: a9.aA :: x2 :: .bool true :: .ptr s 0 :: x5 :: x6 :: x7 :: x8 :: x9 :: x10 :: x11 :: x12 :: x13 :: x14 :: x15 :: a9.aA :: a9.aA :: a9.aA :: a9.aA :: a9.aA :: a9.aA :: a9.aA :: x23 :: a9.aA :: a9.aA :: a9.aA :: a9.aA :: a9.aA :: a9.aA :: x30 :: a9.aA :: a9.aA :: a9.aA :: a9.aA :: a9.aA :: a9.aA :: a9.aA :: a9.aA :: a9.aA :: a9.aA :: a9.aA :: a9.aA :: a9.aA :: a9.aA :: a9.aA :: a9.aA :: a9.aA :: a9.aA :: a9.aA :: a9.aA :: a9.aA :: a9.aA :: a9.aA :: a9.aA :: a9.aA :: a9.aA :: a9.aA :: a9.aA :: a9.aA :: a9.aA :: x61 :: a9.aA :: x63 :: x64 :: x65 :: a9.aA :: a9.aA :: a9.aA :: a9.aA :: a9.aA :: a9.aA :: a9.aA :: a9.aA :: a9.aA :: a9.aA :: a9.aA :: a9.aA :: a9.aA :: a9.aA :: a9.aA :: a9.aA :: a9.aA :: a9.aA :: a9.aA :: a9.aA :: a9.aA :: a9.aA :: a9.aA :: a9.aA :: a9.aA :: a9.aA :: a9.aA :: a9.aA :: a9.aA :: a9.aA :: a9.aA :: a9.aA :: a9.aA :: a9.aA :: a9.aA :: a9.aA :: a9.aA :: a9.aA :: a9.aA :: a9.aA :: a9.aA :: a9.aA :: a9.aA :: a9.aA :: a9.aA :: a9.aA :: a9.aA :: a9.aA :: a9.aA :: a9.aA :: a9.aA :: a9.aA :: a9.aA :: a9.aA :: a9.aA :: a9.aA :: a9.aA :: a9.aA :: a9.aA :: a9.aA :: a9.aA :: a9.aA :: x128 :: a9.aA :: a9.aA :: a9.aA :: a9.aA :: a9.aA :: a9.aA :: a9.aA :: a9.aA :: a9.aA :: a9.aA :: a9.aA :: a9.aA :: a9.aA :: a9.aA :: a9.aA :: a9.aA :: a9.aA :: a9.aA :: a9.aA :: a9.aA :: a9.aA :: a9.aA :: a9.aA :: a9.aA :: a9.aA :: a9.aA :: a9.aA :: x156 :: a9.aA :: []) h n) :
  ∀ (m j : Nat) (h : Hp) (n : Nat) (x0 x2 x6 x7 x8 x9 x10 x11 x12 x13 x14 x15 x23 x30 x61 x63 x64 x65 x128 x156 : a9), j + m = I.length → St W h n s L I → n0 ≤ n → bB h n →
   Run env 11 none Q (.loop G7) ks (x0 :: a9.aA :: x2 :: .bool true :: .ptr s 0 :: .int .i64 ((j : Nat) : Int) :: x6 :: x7 :: x8 :: x9 :: x10 :: x11 :: x12 :: x13 :: x14 :: x15 :: a9.aA :: a9.aA :: a9.aA :: a9.aA :: a9.aA :: a9.aA :: a9.aA :: x23 :: a9.aA :: a9.aA :: a9.aA :: a9.aA :: a9.aA :: a9.aA :: x30 :: a9.aA :: a9.aA :: a9.aA :: a9.aA :: a9.aA :: a9.aA :: a9.aA :: a9.aA :: a9.aA :: a9.aA :: a9.aA :: a9.aA :: a9.aA :: a9.aA :: a9.aA :: a9.aA :: a9.aA :: a9.aA :: a9.aA :: a9.aA :: a9.aA :: a9.aA :: a9.aA :: a9.aA :: a9.aA :: a9.aA :: a9.aA :: a9.aA :: a9.aA :: a9.aA :: x61 :: a9.aA :: x63 :: x64 :: x65 :: a9.aA :: a9.aA :: a9.aA :: a9.aA :: a9.aA :: a9.aA :: a9.aA :: a9.aA :: a9.aA :: a9.aA :: a9.aA :: a9.aA :: a9.aA :: a9.aA :: a9.aA :: a9.aA :: a9.aA :: a9.aA :: a9.aA :: a9.aA :: a9.aA :: a9.aA :: a9.aA :: a9.aA :: a9.aA :: a9.aA :: a9.aA :: a9.aA :: a9.aA :: a9.aA :: a9.aA :: a9.aA :: a9.aA :: a9.aA :: a9.aA :: a9.aA :: a9.aA :: a9.aA :: a9.aA :: a9.aA :: a9.aA :: a9.aA :: a9.aA :: a9.aA :: a9.aA :: a9.aA :: a9.aA :: a9.aA :: a9.aA :: a9.aA :: a9.aA :: a9.aA :: a9.aA :: a9.aA :: a9.aA :: a9.aA :: a9.aA :: a9.aA :: a9.aA :: a9.aA :: a9.aA :: a9.aA :: x128 :: a9.aA :: a9.aA :: a9.aA :: a9.aA :: a9.aA :: a9.aA :: a9.aA :: a9.aA :: a9.aA :: a9.aA :: a9.aA :: a9.aA :: a9.aA :: a9.aA :: a9.aA :: a9.aA :: a9.aA :: a9.aA :: a9.aA :: a9.aA :: a9.aA :: a9.aA :: a9.aA :: a9.aA :: a9.aA :: a9.aA :: a9.aA :: x156 :: a9.aA :: []) h n := by
 have hL := hS.n
 have hI := hS.m
 have hval : ∀ v ∈ L, 0 ≤ v.value ∧ v.value ≤ 2100000000000000 := fun v hv => ⟨(hS.i.f v hv).v0, (hS.i.f v hv).v1⟩
 intro m
 induction m with
 | zero =>
  intro j h n x0 x2 x6 x7 x8 x9 x10 x11 x12 x13 x14 x15 x23 x30 x61 x63 x64 x65 x128 x156 hm hs hn hf
  have : j = I.length := by omega
  subst this
  rw [bT]
  have hcc : ¬ (((I.length : Nat) : Int) ≤ ((I.length : Nat) : Int) - 1) := by omega
  simp only [G7, bD, Try.f11, Option.getD_some, hkr, List.getD_cons_zero, gE]
  rw [aH (WM hs (by omega))]
  simp only [fgr, bor, hcc, gE]
  exact hT h n _ _ _ _ _ _ _ _ _ _ _ _ _ _ _ _ _ _ _ _ _ hf
 | succ m ih =>
  intro j h n x0 x2 x6 x7 x8 x9 x10 x11 x12 x13 x14 x15 x23 x30 x61 x63 x64 x65 x128 x156 hm hs hn hf
  have hj : j < I.length := by omega
  have hcc : (((j : Nat) : Int) ≤ ((I.length : Nat) : Int) - 1) := by omega
  have w1 : IntKind.i64.wrap (((j : Nat) : Int) + 1) = ((j + 1 : Nat) : Int) := by rw [w64 (by omega) (by omega)]; omega
  obtain ⟨i0, ei0, eh0, R, e2⟩ := al5 hS hj
  have hE : vT (kK I ((j : Nat) : Int)) = 0 := by rw [ei0]; rfl
  have hmx : ¬ 2100000000000000 < i0.eZ := by have := R.t; omega
  have rlen : (mV L I 1000 ((j : Nat) : Int)).length ≤ 1000 := by
   unfold mV
   rw [ei0]
   exact DF _ _
  generalize hrs : mV L I 1000 ((j : Nat) : Int) = rs at *
  rw [bT]
  simp only [G7, bD, Try.f11, Option.getD_some, hkr, List.getD_cons_zero, gE]
  rw [aH (WM hs (by omega))]
  simp only [fgr, hkr, bor, hcc, gE]
  refine aU hf (f25 hs _ (by omega) hf) fun v2 h2 n2 hn2 f2 ⟨e3, ob, o2⟩ => ?_
  rw [ei0] at e3 ob
  subst e3
  have ob' : i0.block.length = 32 := ob
  simp only [vT, Option.getD_some, gE]
  rw [cC gV rfl]
  simp only [cel, gE]
  refine dF (v := .agg (bL i0)) gV rfl (bX ob') (eN _) f2 fun H3 r3 p3 f3 => ?_
  replace r3 : Row H3 n2 (bL i0) := r3
  have O3 : Old h H3 n := fun j hj => by rw [p3 j (by omega), o2 j hj]
  have s3 := hs.old (n' := n2 + 1) (by omega) O3
  simp only [fgr, hkr, gE]
  refine aU f3 (f17 s3 1000 _ (by omega) (by omega) hval f3) fun v4 h4 n4 hn4 f4 ⟨o4, u, e4, l4⟩ => ?_
  subst e4
  rw [hrs] at l4
  have s4 := s3.old hn4 o4
  have r4 := r3.aO (o4 n2 (by omega))
  simp only [tyr, fgr, bor, bH, aR, hE, gE]
  rw [aH (Row.one (off := 34) r4 (jE ob' 1) ti2 rfl)]
  simp only [tyr, bor, bH, aR, gt_iff_lt, hmx, gE]
  rw [aH (Row.one (off := 0) r4 (show (bL i0)[0]? = some (.int .i64 i0.bJ) from rfl) ti3 rfl)]
  simp only [fgr, builtin, bor, bH, eh0, l4.len, gE]
  refine O6 _ _ W s n2 n4 (n2 + 1) _ i0.eZ u (.aL) L I rs h4 l4 (by omega) (by omega) (by omega) R ei0 ?_ rs.length 0 h4 n4 _ _ _ _ _ _ _ _ _ _ _ _ _ _ _ (by omega) s4 (Nat.le_refl _) f4 (Old.refl _ _)
  intro h5 n5 x0 x2 x7 x9 x11 x12 x13 x14 x15 x23 x30 x61 x63 x64 x65 x128 x156 s5 hn5 f5 o5
  have r5 := r4.aO (o5 n2 (by omega))
  have l5 : RiL h5 (n2 + 1) n4 u rs := l4.aO fun j _ q => o5 j q
  simp only [hkr, gE]
  refine aU f5 (f17 s5 2 _ (by omega) (by omega) hval f5) fun v6 h6 n6 hn6 f6 ⟨o6, u2, e6, l6⟩ => ?_
  subst e6
  rw [e2] at l6
  have s6 := s5.old hn6 o6
  have r6 := r5.aO (o6 n2 (by omega))
  have l56 : RiL h6 (n2 + 1) n4 u rs := l5.aO fun j _ q => o6 j (by omega)
  have hmin : (if ((rs.length : Nat) : Int) < 2 then ((rs.length : Nat) : Int) else 2) = ((min 2 rs.length : Nat) : Int) := by
   split <;> omega
  have hmin2 : rs.take 2 = rs.take (min 2 rs.length) := by
   by_cases c : 2 ≤ rs.length
   ·rw [Nat.min_eq_left c]
   ·rw [Nat.min_eq_right (by omega), List.take_of_length_le (by omega), List.take_length]
  rw [hmin2] at l6
  have lp := l56.pre (k := min 2 rs.length) (Nat.min_le_right _ _)
  simp only [tyr, fgr, bor, aR, hE, gE]
  rw [aH (Row.one (off := 34) r6 (jE ob' 1) ti2 rfl)]
  simp only [opt, builtin, y7, min2, bor, bH, l56.len, hmin, gE]
  have l56' := l56
  obtain ⟨cells, c1, c2, c3⟩ := l56'
  rw [aH (c1.rds.I9 c1.ML u36 z41 rfl (Nat.min_le_right _ _))]
  simp only [hkr, gE]
  refine dJ (f18 u2 _ _ _ _ _ _ h6 n6 (by rw [List.length_take]; omega) l6 lp) ?_
  simp only [fgr, bor, bZ, unOp, bH, w1, gE]
  exact ih (j + 1) h6 n6 _ _ _ _ _ _ _ _ _ _ _ _ _ _ _ _ _ _ _ _ (by omega) s6 (by omega) f6
theorem am8 (v0 : a9) (hv0 : Arg Try.prog 101 [v0]) :
  Wp (aQ env (aE env) 11 [v0]) (fun _ => none) 0 fun v _ _ => v = .bool true := by
 obtain ⟨os, xs, ha⟩ := ag6 hv0
 refine aW aV6 aL8 ?_
 simp only [ac9, Try.f11, Option.getD_some, List.replicate, fgr, hkr, Nat.reduceSub, gE]
 refine aU bB.none (f27 _ _ bB.none) fun v2 h2 n2 hn2 f2 ⟨e2, o2⟩ => ?_
 subst e2
 simp only [fgr, hkr, gE]
 refine dJ (f57 v0 os xs h2 n2 ha) ?_
 by_cases g : nZ os = true
 ·simp only [fgr, bor, bH, ↓reduceIte, Int.reduceLT, gt_iff_lt, g, gE]
 rw [Bool.not_eq_true] at g
 simp only [fgr, hkr, bor, unOp, bH, ↓reduceIte, Int.reduceLT, gt_iff_lt, g, Bool.false_eq_true, gE]
 refine aU f2 (f58 v0 os xs h2 n2 ha g f2) fun v3 h3 n3 hn3 f3 ⟨s, L, I, e3, hx, s3, hS, o3⟩ => ?_
 subst e3
 simp only [fgr, gE]
 refine O7 _ _ (fun j => j = s) s n3 L I h3 hS ?_ I.length 0 h3 n3 _ _ _ _ _ _ _ _ _ _ _ _ _ _ _ _ _ _ _ _ (by omega) s3 (Nat.le_refl _) f3
 intro h4 n4 x0 x2 x5 x6 x7 x8 x9 x10 x11 x12 x13 x14 x15 x23 x30 x61 x63 x64 x65 x128 x156 f4
 simp only [fgr, gE]
end Go.Am.Ytlgebaofkolkoaa
