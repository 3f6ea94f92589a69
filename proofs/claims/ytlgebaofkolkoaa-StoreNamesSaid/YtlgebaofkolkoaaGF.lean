/- What the statement reaches, gone through; and the abstract machine that goes through it. -/
import Derived.Test.YtlgebaofkolkoaaGE
set_option linter.unusedSimpArgs false
set_option linter.unusedVariables false
set_option linter.defProp false
set_option maxRecDepth 10000
namespace Go.Am.Ytlgebaofkolkoaa
open Go Go.Am Go.Proofs
theorem f19 {W : Nat → Prop} {h : Hp} {n s : Nat} {L : List Ver} {I : List Inf} (q : St W h n s L I) (A : App) (mv sv : a9) (a b : Nat) (ha : j6 h a b A mv sv) (hb : b ≤ n) (haW : ∀ j, a ≤ j → j < b → ¬ W j)
  (hpn : ∀ v ∈ A.made, 0 ≤ v.pn) (hI : I.length ≤ 900000) (hL : L.length + A.made.length ≤ 900000) (hf : bG h n) :
  Wp (bM env (aY env) 19 [.ptr s 0, .agg (cX A mv sv)]) h n fun v' h' n' => v' = .int .i64 (mR (fJ L I A)) ∧ (∀ j, j < n → j ≠ s → h' j = h j) ∧ St W h' n' s ((fJ L I A).getD (L, I)).1 ((fJ L I A).getD (L, I)).2 := by
 have sn := q.sn
 refine aZ ad5 ZP ?_
 simp only [RA, Try.f19, Option.getD_some, List.replicate, Nat.reduceAdd, Nat.reduceSub, gE]
 refine dU (v := .agg (cX A mv sv)) AT rfl hf fun H1 r1 o1 f1 => ?_
 replace r1 : Row H1 n (cX A mv sv) := r1
 have O1 : Old h H1 n := fun j hj => o1 j (by omega)
 have q1 := q.old (n' := n + 1) (by omega) O1
 have a1 : j6 H1 a b A mv sv := ha.aS fun j _ w => O1 j (by omega)
 obtain ⟨x, lv, rs, ix, il, sa, sb, sc⟩ := q1
 simp only [fgr, hkr, gE]
 refine dA (f66 s x lv H1 (n + 1) rs) ?_
 simp only [fgr, gE]
 refine cP ⟨rfl, ?_⟩
 simp only [gE]
 rw [bJ (yV r1 ha.b)]
 simp only [hkr, gE]
 refine eE f1 (f67 A mv sv a b H1 (n + 1) a1 (by omega) f1) fun v2 h2 n2 rr2 ww2 hn2 f2 ⟨e2, o2⟩ => ?_
 subst e2
 have k2 : ∀ j, j < n → h2 j = h j := fun j hj => by rw [o2 j (by omega), O1 j hj]
 have r2 : Row h2 n (cX A mv sv) := r1.aS (o2 n (by omega))
 have q2 := q.old (n' := n2) (by omega) (fun j hj => k2 j hj)
 cases hck : mO A with
 | false =>
  have hno : fJ L I A = none := by unfold fJ; rw [hck]; rfl
  rw [hno]
  simp only [fgr, bor, aT, Nat.reduceAdd, ↓reduceIte, Int.reduceEq, reduceCtorEq, gE]
  refine ⟨(by (try simp (disch := first | assumption | omega) only [dW, gF]); repeat' (first | rfl | exact (Bool.or_eq_true _ _).mpr (.inr rfl) | refine (Bool.and_eq_true _ _).mpr ⟨?_, ?_⟩)), ?_⟩
  exact ⟨rfl, fun j hj _ => k2 j hj, q2⟩
 | true =>
 obtain ⟨x, lv, rs, ix, il, sa, sb, sc⟩ := q2
 have w1 : IntKind.i64.wrap (((I.length : Nat) : Int) - 1 + 1) = ((I.length : Nat) : Int) := by rw [w64 (by omega) (by omega)]; omega
 simp only [tyr, bor, aQ, Nat.reduceAdd, ↓reduceIte, gE]
 rw [bJ (uT r2)]
 simp only [hkr, Nat.reduceAdd, gE]
 rw [bJ (Q7 s x lv I h2 n2 rs il (by omega))]
 simp only [fgr, bor, bS, aT, Nat.reduceAdd, decide_not, w1, gE]
 by_cases hh : A.bR = ((I.length : Nat) : Int)
 ·simp only [tyr, aQ, hh, gE]
  refine ⟨(by (try simp (disch := first | assumption | omega) only [dW, gF]); repeat' (first | rfl | exact (Bool.or_eq_true _ _).mpr (.inr rfl) | refine (Bool.and_eq_true _ _).mpr ⟨?_, ?_⟩)), ?_⟩
  rw [aI (rs.one (off := 0) rfl oC rfl)]
  simp only [hkr, gE]
  have ixx := ix
  obtain ⟨⟨D0, M0, ixi, ixk, ixt⟩, ixg⟩ := ixx
  refine aJ f2 (f41 x L D0 M0 h2 n2 ixi (by omega) f2) fun v3 h3 n3 hn3 f3 ⟨y, M', e3, i3, hM, o3⟩ => ?_
  subst e3
  have y3 : Ixw (fun j => j < n2) W h3 n3 y L := ⟨⟨D0, M', i3, fun j hj => ⟨by omega, fun w => by have := hM j w; omega⟩, fun j hj => ⟨by have := (ixt j hj).1; omega, (ixt j hj).2⟩⟩, ixg⟩
  have rs3 := rs.aS (o3 s (by omega))
  have il3 : IL h3 lv I := il.aS fun j w => o3 j (by have := (sa j w).1; omega)
  simp only [hkr, gE]
  refine aJ f3 (f68 s x lv I h3 n3 rs3 il3 (by omega) (fun j w => by have := (sa j w).1; omega) (by omega) f3) fun v4 h4 n4 hn4 f4 ⟨e4, lb, o4⟩ => ?_
  subst e4
  simp only [gE]
  rw [cD gJ rfl]
  simp only [cel, gE]
  refine dM (v := .agg (bQ (jT I))) gJ rfl (bV lb) (eM _) f4 fun H5 r5 o5 f5 => ?_
  replace r5 : Row H5 n4 (bQ (jT I)) := r5
  have O35 : Old h3 H5 n3 := fun j hj => by rw [o5 j (by omega), o4 j hj]
  have y5 := y3.tK (n' := n4 + 1) (by omega) O35
  have K5 : ∀ j, j < n → H5 j = h j := fun j hj => by rw [O35 j (by omega), o3 j (by omega), k2 j hj]
  have r25 : Row H5 n (cX A mv sv) := r2.aS (by rw [O35 n (by omega), o3 n (by omega)])
  simp only [fgr, gE]
  rw [aI (yV r25 ha.b)]
  simp only [tyr, aQ, gE]
  rw [aI (Row.one (off := 34) r5 (mI lb 1) ti2 rfl)]
  simp only [tyr, hkr, lenOf, bS, convert, gP, oG, gE]
  have KK : ∀ h' : Hp, (∀ j, (j < n2 ∨ (n3 ≤ j ∧ j < n4 + 1)) → h' j = H5 j) → ∀ j, j < n → h' j = h j := fun h' w j hj => by rw [w j (.inl (by omega)), K5 j hj]
  refine aJ f5 (f69 W (fun j => j < n2 ∨ (n3 ≤ j ∧ j < n4 + 1)) W s y a b A mv sv L L I (z6 (jT I).jI) H5 (n4 + 1) y5 (fun j w => by omega) (fun h' n' hn' w => q.old (by omega) fun j hj => KK h' w j hj) (fun h' w => ha.aS fun j _ q => KK h' w j (by omega)) (by omega) hpn (fun v hv => by have := (JE hck v hv).1; omega) (by omega) (by omega) hL f5) fun v6 h6 n6 hn6 f6 ⟨k6, hd⟩ => ?_
  have r26 : Row h6 n (cX A mv sv) := r25.aS (k6 n (.inl (by omega)))
  have r56 : Row h6 n4 (bQ (jT I)) := r5.aS (k6 n4 (.inr (by omega)))
  have q6 := q.old (n' := n6) (by omega) (KK h6 k6)
  have w8 : ∀ u v : Int, IntKind.i64.wrap (u + v) = uN (u + v) := fun u v => rfl
  rcases hd with ⟨L', t', hd, e6, y6⟩ | ⟨hd, e6⟩
  ·subst e6
   simp only [fgr, gE]
   refine cP ⟨rfl, ?_⟩
   simp only [tyr, aQ, gE]
   rw [bJ (Row.one (off := 35) r56 (mI lb 2) ti2 rfl)]
   simp only [tyr, aQ, Nat.reduceAdd, gE]
   rw [bJ (BZ r26 ha.b)]
   simp only [tyr, bor, bS, aQ, Nat.reduceAdd, gE]
   rw [bJ (Row.one (off := 36) r56 (mI lb 3) ti2 rfl)]
   simp only [tyr, aQ, Nat.reduceAdd, gE]
   rw [bJ (BY r26 ha.b)]
   simp only [fgr, bor, bS, unOp, aT, Nat.reduceAdd, gt_iff_lt, gE]
   refine ⟨(by (try simp (disch := first | assumption | omega) only [dW, gF]); repeat' (first | rfl | exact (Bool.or_eq_true _ _).mpr (.inr rfl) | refine (Bool.and_eq_true _ _).mpr ⟨?_, ?_⟩)), ?_⟩
   by_cases c1 : 2100000000000000 < t'
   ·have hno : fJ L I A = none := by unfold fJ xB; rw [hck, decide_eq_true hh, hd]; simp only [Bool.and_self]; rw [decide_eq_true c1]; rfl
    rw [hno]
    simp only [fgr, aT, c1, gE]
    exact ⟨rfl, fun j hj _ => KK h6 k6 j hj, q6⟩
   simp only [bor, aT, gt_iff_lt, c1, gE]
   by_cases c2 : 2100000000000000 < IntKind.i64.wrap ((jT I).fU + A.fU)
   ·have hno : fJ L I A = none := by unfold fJ xB uN; rw [hck, decide_eq_true hh, hd]; simp only [Bool.and_self]; rw [decide_eq_true c2]; simp only [Bool.or_true, Bool.true_or]
    rw [hno]
    simp only [fgr, aT, c2, gE]
    exact ⟨rfl, fun j hj _ => KK h6 k6 j hj, q6⟩
   simp only [fgr, bor, aT, gt_iff_lt, c2, gE]
   by_cases c3 : 2100000000000000 < IntKind.i64.wrap ((jT I).left + A.left)
   ·have hno : fJ L I A = none := by unfold fJ xB uN; rw [hck, decide_eq_true hh, hd]; simp only [Bool.and_self]; rw [decide_eq_true c3]; simp only [Bool.or_true]
    rw [hno]
    simp only [fgr, c3, gE]
    exact ⟨rfl, fun j hj _ => KK h6 k6 j hj, q6⟩
   have hyes : fJ L I A = some (L', I ++ [oY I A t']) := by unfold fJ xB uN; rw [hck, decide_eq_true hh, hd]; simp only [Bool.and_self]; rw [decide_eq_false c1, decide_eq_false c2, decide_eq_false c3]; rfl
   rw [hyes]
   obtain ⟨x6, lv6, rs6, ix6, il6, sa6, sb6, sc6⟩ := q6
   obtain ⟨et, hs6⟩ := rs6
   simp only [tyr, aQ, c3, gE]
   rw [eS (Row.eZ (off := 0) (v := .ptr y 0) hs6 oC rfl (by show 0 + 1 ≤ 2; omega) rfl)]
   obtain ⟨h7, hh7⟩ : ∃ h7, h7 = upd h6 s (some (.row (.l [.ptr y 0, lv6]) et)) := ⟨_, rfl⟩
   show Ops _ _ _ _ _ _ _ _ (upd h6 s (some (.row (.l [.ptr y 0, lv6]) et))) _
   rw [← hh7]
   have s7 : h7 s = some (.row (.l [.ptr y 0, lv6]) et) := by rw [hh7, aP]
   have o7 : ∀ j, j ≠ s → h7 j = h6 j := fun j hj => by rw [hh7, aG _ _ hj]
   have f7 : bG h7 n6 := by rw [hh7]; exact f6.upd (by omega)
   clear hh7
   have r27 : Row h7 n (cX A mv sv) := r26.aS (o7 n (by omega))
   have r57 : Row h7 n4 (bQ (jT I)) := r56.aS (o7 n4 (by omega))
   have il7 : IL h7 lv6 I := il6.aS fun j w => o7 j (fun e => (sa6 j w).2 (by rw [e]; exact sb6))
   simp only [bP, fgr, bX, aE]
   refine cP ⟨rfl, ?_⟩
   simp only [tyr, aQ, Nat.reduceAdd, gE]
   rw [bJ (Row.one (off := 1) ⟨et, s7⟩ rfl sP rfl)]
   simp only [hkr, Nat.reduceAdd, gE]
   refine pW f7 (f70 lv6 I h7 (fun _ => none) n6 il7) (f70 lv6 I h7 h7 n6 il7) fun v8 h8 n8 hn8 f8 ⟨e8, eh8, en8⟩ => ?_
   subst e8; subst eh8; subst en8
   simp only [tyr, aQ, Nat.reduceAdd, gE]
   rw [bJ (uT r27)]
   simp only [tyr, aQ, Nat.reduceAdd, gE]
   rw [bJ (S7 r27 ha.b)]
   simp only [tyr, aQ, Nat.reduceAdd, gE]
   rw [bJ (Row.one (off := 33) r57 (mI lb 0) ti3 rfl)]
   simp only [tyr, aQ, Nat.reduceAdd, gE]
   rw [bJ (BX r27 ha.b)]
   simp only [tyr, builtin, bor, bS, aQ, Nat.reduceAdd, ha.m.len, gE]
   rw [bJ (BW r27 ha.b)]
   simp only [tyr, builtin, lenOf, bor, bS, Nat.reduceAdd, ha.s.len, convert, gP, oG, gE]
   have hb61 : build env 61 [(0, .int .i64 A.bR), (1, .agg (A.block.map u8)), (2, .int .i64 (IntKind.i64.wrap (IntKind.i64.wrap ((jT I).jV + (A.made.length : Nat)) - (A.cG.length : Nat)))), (3, .int .i64 (IntKind.i64.wrap t')), (4, .int .i64 (IntKind.i64.wrap ((jT I).fU + A.fU))), (5, .int .i64 (IntKind.i64.wrap ((jT I).left + A.left)))] = M.pure (.agg (bQ (oY I A t'))) := RS (i := oY I A t') ha.b
   rw [hb61]
   simp only [Nat.reduceAdd, aD5 (X := bQ (oY I A t')) (bV (show (oY I A t').block.length = 32 from ha.b)), gE]
   refine kA gJ f7 fun H9 g9 o9 f9 => ?_
   simp only [builtin, Nat.reduceAdd, gE]
   obtain ⟨cells, c1, c2⟩ := il7
   have c1' := c1.aS (h' := H9) fun j w => o9 j (by have := (sa6 j w).1; omega)
   refine eE f9 (z4 (i := uD.i) (k := 1) c1' (mV g9 (bV (show (oY I A t').block.length = 32 from ha.b))) u57 u57 gJ (by omega) (by show 2 * (I.length + 1) * 72 ≤ _; omega) (by omega)) fun v10 h10 n10 rr10 ww10 hn10 f10 ⟨e10, eh10, en10⟩ => ?_
   subst e10; subst en10
   have o10 : ∀ j, j ≠ n8 + 1 → h10 j = H9 j := fun j hj => by rw [eh10, aG _ _ hj]
   have g10 : h10 (n8 + 1) = some (.row (.l (cells ++ bQ (oY I A t'))) 61) := by rw [eh10, aP]
   clear eh10
   have s10 : h10 s = some (.row (.l [.ptr y 0, lv6]) et) := by rw [o10 s (by omega), o9 s (by omega)]; exact s7
   simp only [tyr, aQ, Nat.reduceAdd, gE]
   refine jZ (Row.eZ (off := 1) (v := .sl (n8 + 1) 0 (I.length + 1) none 37) s10 sP rfl (by show 1 + 1 ≤ 2; omega) rfl) ?_
   obtain ⟨hZ, hhZ⟩ : ∃ hZ, hZ = upd h10 s (some (.row (.l [.ptr y 0, .sl (n8 + 1) 0 (I.length + 1) none 37]) et)) := ⟨_, rfl⟩
   show Fe _ _ _ _ _ _ _ _ _ _ (upd h10 s (some (.row (.l [.ptr y 0, .sl (n8 + 1) 0 (I.length + 1) none 37]) et))) _
   rw [← hhZ]
   have sZ : Row hZ s [.ptr y 0, .sl (n8 + 1) 0 (I.length + 1) none 37] := ⟨et, by rw [hhZ, aP]⟩
   have oZ : ∀ j, j < n8 → j ≠ s → hZ j = h6 j := fun j h1 h2 => by rw [hhZ, aG _ _ h2, o10 j (by omega), o9 j (by omega), o7 j h2]
   have gZ : hZ (n8 + 1) = some (.row (.l (cells ++ bQ (oY I A t'))) 61) := by rw [hhZ, aG _ _ (by omega)]; exact g10
   clear hhZ
   simp only [fgr, Nat.reduceAdd, gE]
   have q0 : ∀ id, id ∈ [s] → id < n8 ∨ n8 + 1 ≤ id := fun id w => by rw [List.mem_singleton] at w; omega
   have q1 : ∀ id, id ∈ [n] → id < n8 ∨ n8 + 1 ≤ id := fun id w => by rw [List.mem_singleton] at w; omega
   have q2 : ∀ id, id ∈ [n4] → id < n8 ∨ n8 + 1 ≤ id := fun id w => by rw [List.mem_singleton] at w; omega
   have q3 : ∀ id, id ∈ ([] : List Nat) → id < n8 ∨ n8 + 1 ≤ id := fun id w => by cases w
   refine ⟨(by (try simp (disch := first | assumption | omega) only [dW, gF]); repeat' (first | rfl | exact (Bool.or_eq_true _ _).mpr (.inr rfl) | refine (Bool.and_eq_true _ _).mpr ⟨?_, ?_⟩)), ?_⟩
   obtain ⟨⟨D', M1, i6, kk6, tt6⟩, gg6⟩ := y6
   have cl : cells.length = I.length * 37 := c1.rds.length
   simp only [Option.getD_some]
   refine ⟨rfl, fun j h1 h2 => by rw [oZ j (by omega) h2, KK h6 k6 j h1], y, _, sZ, ⟨⟨D', M1, i6.oU (by omega) fun j h1 h2 => oZ j h1 fun e => ?_, fun j w => ?_, fun j w => ?_⟩, gg6⟩, ⟨cells ++ bQ (oY I A t'), ?_, fun j hj => ?_⟩, fun j w => ?_, sb6, fun j w => ?_⟩
   ·subst e
    rcases h2 with h2 | h2
    ·exact (tt6 j sb6).2 h2
    ·exact (kk6 j (.inl (by omega))).2 h2
   ·have := sc6 j w
    refine ⟨by omega, (kk6 j (.inl ?_)).2⟩
    have := sc j w
    omega
   ·have := sc6 j w
    exact ⟨by omega, (tt6 j w).2⟩
   ·rw [List.length_append]
    exact B8 gZ (by rw [List.length_append, cl, bV (show (oY I A t').block.length = 32 from ha.b)]; omega) (fun k w => by cases w)
   ·rw [List.length_append] at hj
    by_cases hlt : j < I.length
    ·rw [List.getElem_append_left hlt, List.drop_append_of_le_length (by omega), List.take_append_of_le_length (by rw [List.length_drop]; omega)]
     exact c2 j hlt
    ·have : j = I.length := by simp at hj; omega
     subst this
     rw [← cl, List.drop_left, List.take_of_length_le (by rw [bV (show (oY I A t').block.length = 32 from ha.b)]; omega)]
     simp only [List.getElem_append_right (Nat.le_refl _), Nat.sub_self, List.getElem_cons_zero]
     exact ⟨trivial, ha.b⟩
   ·injection w with w
    refine ⟨by omega, fun ww => ?_⟩
    have := sc6 j ww
    omega
   ·have := sc6 j w
    omega
  ·subst e6
   have hno : fJ L I A = none := by unfold fJ; rw [hck, decide_eq_true hh, hd]; rfl
   rw [hno]
   simp only [fgr, gE]
   refine cP ⟨rfl, ?_⟩
   simp only [tyr, aQ, gE]
   rw [bJ (Row.one (off := 35) r56 (mI lb 2) ti2 rfl)]
   simp only [tyr, aQ, Nat.reduceAdd, gE]
   rw [bJ (BZ r26 ha.b)]
   simp only [tyr, bor, bS, aQ, Nat.reduceAdd, gE]
   rw [bJ (Row.one (off := 36) r56 (mI lb 3) ti2 rfl)]
   simp only [tyr, aQ, Nat.reduceAdd, gE]
   rw [bJ (BY r26 ha.b)]
   simp only [fgr, bor, bS, unOp, aT, Nat.reduceAdd, gE]
   refine ⟨(by (try simp (disch := first | assumption | omega) only [dW, gF]); repeat' (first | rfl | exact (Bool.or_eq_true _ _).mpr (.inr rfl) | refine (Bool.and_eq_true _ _).mpr ⟨?_, ?_⟩)), ?_⟩
   exact ⟨rfl, fun j hj _ => KK h6 k6 j hj, q6⟩
 ·have hno : fJ L I A = none := by unfold fJ; rw [hck, decide_eq_false hh]; rfl
  rw [hno]
  simp only [fgr, hh, gE]
  refine ⟨(by (try simp (disch := first | assumption | omega) only [dW, gF]); repeat' (first | rfl | exact (Bool.or_eq_true _ _).mpr (.inr rfl) | refine (Bool.and_eq_true _ _).mpr ⟨?_, ?_⟩)), ?_⟩
  exact ⟨rfl, fun j hj _ => k2 j hj, q.old (by omega) fun j hj => k2 j hj⟩
theorem GF {P S : List Ver} {w : Ver} (r : eU false (P ++ w :: S)) : pos false (P ++ w :: S) w = P.length := by
 have hm : w ∈ P ++ w :: S := List.mem_append_right _ (List.mem_cons_self ..)
 obtain ⟨hp, hw⟩ := pK r (sY r w) hm
 have hl : P.length < (P ++ w :: S).length := by simp
 have hw2 : (P ++ w :: S)[P.length] = w := by simp
 have e0 : gM w w = 0 := uG.refl w
 rcases Nat.lt_trichotomy (pos false (P ++ w :: S) w) P.length with q | q | q
 ·have := r.at_ hp hl q
  rw [hw, hw2] at this
  have : gM w w < 0 := this
  omega
 ·exact q
 ·have := r.at_ hl hp q
  rw [hw, hw2] at this
  have : gM w w < 0 := this
  omega
theorem NV {P S : List Ver} {w : Ver} (r : eU false (P ++ w :: S)) : lI (P ++ w :: S) w = P ++ S := by
 unfold lI iV
 rw [GF r]
 simp
theorem PY {P S : List Ver} {w v : Ver} (r : eU false (P ++ w :: S)) : zA (P ++ w :: S) w v = P ++ v :: S := by
 unfold zA
 rw [GF r]
 simp
def y9 (z : Int) (v : Ver) : Option Ver := if z < v.made then none else if z < v.cV ∧ 0 < v.cV then some (iU v 0 z32) else some v
def oR (z : Int) (L : List Ver) : List Ver := L.filterMap (y9 z)
theorem NX {L : List Ver} {i : Nat} (h : i < L.length) (z : Int) : oR z (L.take (i + 1)) = oR z (L.take i) ++ (y9 z L[i]).toList := by
 unfold oR
 rw [kL h, List.filterMap_append]
 cases e : y9 z L[i] <;> simp [e]
theorem IL.pre {h : Hp} {v : a9} {I : List Inf} (l : IL h v I) {k : Nat} (hk : k ≤ I.length) : IL h (lH 0 k v) (I.take k) := by
 obtain ⟨cells, c1, c2⟩ := l
 refine ⟨cells.take (k * 37), ?_, fun j hj => ?_⟩
 ·rw [List.length_take, Nat.min_eq_left hk]
  exact c1.pre hk
 ·rw [List.length_take] at hj
  obtain ⟨a, b⟩ := c2 j (by omega)
  rw [List.getElem_take]
  refine ⟨?_, b⟩
  rw [List.drop_take, List.take_take, Nat.min_eq_left (by omega)]
  exact a
theorem V0 (Q : fC) (ks : List Kf) (K T : Nat → Prop) (v : a9) (s y n1 n2 : Nat) (z : Int) (L : List Ver) (h0 : Hp) (hKn : ∀ j, K j → j < n2) (hV : ∀ j, n1 ≤ j → j < n2 → K j) (hl : L.length ≤ 900000)
  (hv : VL h0 n1 n2 v L)
  (hT : ∀ (h : Hp) (n : Nat) (x4 x7 x8 x11 x29 x32 x43 : a9), (∀ j, K j → h j = h0 j) → Ixw K T h n y (oR z L) → n2 ≤ n → bG h n →
   eR env 22 none Q ks (.exit 1) (.ptr s 0 :: .int .i64 z :: a9.aA :: a9.aA :: x4 :: .ptr y 0 :: a9.aA :: x7 :: x8 :: a9.aA :: a9.aA :: x11 :: a9.aA :: a9.aA :: a9.aA :: a9.aA :: a9.aA :: a9.aA :: a9.aA :: a9.aA :: a9.aA :: a9.aA :: a9.aA :: a9.aA :: a9.aA :: a9.aA :: v :: .int .i64 (L.length : Nat) :: .int .i64 (L.length : Nat) :: x29 :: a9.aA :: a9.aA :: x32 :: a9.aA :: a9.aA :: a9.aA :: a9.aA :: a9.aA :: a9.aA :: a9.aA :: a9.aA :: a9.aA :: a9.aA :: x43 :: a9.aA :: a9.aA :: a9.aA :: a9.aA :: a9.aA :: a9.aA :: a9.aA :: a9.aA :: a9.aA :: a9.aA :: a9.aA :: a9.aA :: a9.aA :: a9.aA :: a9.aA :: a9.aA :: a9.aA :: a9.aA :: a9.aA :: a9.aA :: a9.aA :: a9.aA :: a9.aA :: a9.aA :: a9.aA :: a9.aA :: a9.aA :: a9.aA :: a9.aA :: a9.aA :: a9.aA :: []) h n) :
  ∀ (m i : Nat) (h : Hp) (n : Nat) (x4 x7 x8 x11 x29 x32 x43 : a9), i + m = L.length → (∀ j, K j → h j = h0 j) → Ixw K T h n y (oR z (L.take i) ++ L.drop i) → n2 ≤ n → bG h n →
   Run env 22 none Q (.loop EO) ks (.ptr s 0 :: .int .i64 z :: a9.aA :: a9.aA :: x4 :: .ptr y 0 :: a9.aA :: x7 :: x8 :: a9.aA :: a9.aA :: x11 :: a9.aA :: a9.aA :: a9.aA :: a9.aA :: a9.aA :: a9.aA :: a9.aA :: a9.aA :: a9.aA :: a9.aA :: a9.aA :: a9.aA :: a9.aA :: a9.aA :: v :: .int .i64 (L.length : Nat) :: .int .i64 (i : Nat) :: x29 :: a9.aA :: a9.aA :: x32 :: a9.aA :: a9.aA :: a9.aA :: a9.aA :: a9.aA :: a9.aA :: a9.aA :: a9.aA :: a9.aA :: a9.aA :: x43 :: a9.aA :: a9.aA :: a9.aA :: a9.aA :: a9.aA :: a9.aA :: a9.aA :: a9.aA :: a9.aA :: a9.aA :: a9.aA :: a9.aA :: a9.aA :: a9.aA :: a9.aA :: a9.aA :: a9.aA :: a9.aA :: a9.aA :: a9.aA :: a9.aA :: a9.aA :: a9.aA :: a9.aA :: a9.aA :: a9.aA :: a9.aA :: a9.aA :: a9.aA :: a9.aA :: a9.aA :: []) h n := by
 intro m
 induction m with
 | zero =>
  intro i h n x4 x7 x8 x11 x29 x32 x43 hm hk hy hn hf
  have : i = L.length := by omega
  subst this
  rw [List.take_length, List.drop_length, List.append_nil] at hy
  rw [cY]
  have hcc : ¬ (((L.length : Nat) : Int) < ((L.length : Nat) : Int)) := by omega
  simp only [EO, c8, Try.f22, Option.getD_some, fgr, bor, Int.reduceNeg, List.getD_cons_zero, hcc, gE]
  exact hT h n _ _ _ _ _ _ _ hk hy hn hf
 | succ m ih =>
  intro i h n x4 x7 x8 x11 x29 x32 x43 hm hk hy hn hf
  have hv' := hv.aS (h' := h) fun j a b => hk j (hV j a b)
  have hil : i < L.length := by omega
  have hcc : (((i : Nat) : Int) < ((L.length : Nat) : Int)) := by omega
  have w1 : IntKind.i64.wrap (((i : Nat) : Int) + 1) = ((i + 1 : Nat) : Int) := by rw [w64 (by omega) (by omega)]; omega
  obtain ⟨sw, va⟩ := hv'.at_ hil
  have hcs := NX hil z
  have hln : (oR z (L.take i) ++ L.drop i).length ≤ 900000 := by
   have h1 : (oR z (L.take i)).length ≤ (L.take i).length := List.length_filterMap_le _ _
   rw [List.length_append, List.length_drop]
   rw [List.length_take] at h1
   omega
  rw [← List.getElem_cons_drop hil] at hy hln
  generalize L[i] = w at *
  have ry := hy.rL
  have wy : w ∈ oR z (L.take i) ++ w :: L.drop (i + 1) := List.mem_append_right _ (List.mem_cons_self ..)
  rw [cY]
  simp only [EO, c8, Try.f22, Option.getD_some, fgr, bor, Int.reduceNeg, List.getD_cons_zero, hcc, gE]
  rw [aI (hv'.idx hil)]
  simp only [gE]
  rw [aI (va.all n)]
  simp only [gE]
  rw [cD eB rfl]
  simp only [cel, gE]
  have kd := va.s.kind
  refine dM (v := .agg (aK w sw)) eB rfl (bD va.ok.h va.ok.b) (cS kd.2.1) hf fun H1 r1 p1 f1 => ?_
  replace r1 : Row H1 n (aK w sw) := r1
  have O1 : Old h H1 n := fun j hj => p1 j (by omega)
  have k1 : ∀ j, K j → H1 j = h0 j := fun j q => by rw [p1 j (by have := hKn j q; omega)]; exact hk j q
  have y1 := hy.old (n' := n + 1) (by omega) O1
  simp only [tyr, fgr, aQ, gE]
  rw [aI (gV r1 va.ok)]
  by_cases c1 : z < w.made
  ·have ec : y9 z w = none := by unfold y9; rw [if_pos c1]
   rw [ec] at hcs
   simp only [Option.toList_none, List.append_nil] at hcs
   simp only [tyr, fgr, bor, aQ, gt_iff_lt, c1, gE]
   rw [aI (jN r1 va.ok)]
   simp only [tyr, aQ, gE]
   rw [aI (gV r1 va.ok)]
   simp only [hkr, gE]
   refine aJ f1 (aC3 w.aO w.pn w.made va.ok.h y1 hln f1) fun v6 h6 n6 hn6 f6 ⟨k6, hh⟩ => ?_
   rcases hh with ⟨hno, _⟩ | ⟨w2, hw2, hk2, e6, y6⟩
   ·exact absurd (BF w) (hno w wy)
   ·subst e6
    have hww : w2 = w := mB ry hw2 wy hk2
    subst hww
    rw [NV ry, ← hcs] at y6
    simp only [fgr, bor, bS, w1, gE]
    exact ih (i + 1) h6 n6 _ _ _ _ _ _ _ (by omega) (fun j q => by rw [k6 j q]; exact k1 j q) y6 (by omega) f6
  ·simp only [tyr, fgr, bor, aQ, gt_iff_lt, c1, gE]
   rw [aI (eP r1 va.ok)]
   by_cases c2 : z < w.cV
   ·simp only [tyr, bor, aQ, gt_iff_lt, c2, gE]
    rw [aI (eP r1 va.ok)]
    by_cases c3 : 0 < w.cV
    ·have ec : y9 z w = some (iU w 0 z32) := by unfold y9; rw [if_neg c1, if_pos ⟨c2, c3⟩]
     rw [ec] at hcs
     simp only [tyr, fgr, bor, aT, aQ, gt_iff_lt, c3, gE]
     rw [aI (jN r1 va.ok)]
     simp only [tyr, aQ, gE]
     rw [aI (gV r1 va.ok)]
     simp only [hkr, gE]
     refine aJ f1 (aC1 w.aO w.pn w.made va.ok.h y1 hln f1) fun v6 h6 n6 hn6 f6 ⟨k6, hh⟩ => ?_
     rcases hh with ⟨hno, _⟩ | ⟨w2, hw2, hk2, h2, e6, y6⟩
     ·have := hno w wy (BF w)
      omega
     ·subst e6
      have hww : w2 = w := mB ry hw2 wy hk2
      subst hww
      rw [PY ry] at y6
      have e7 : oR z (L.take i) ++ iU w2 0 z32 :: L.drop (i + 1) = oR z (L.take (i + 1)) ++ L.drop (i + 1) := by rw [hcs]; simp
      rw [e7] at y6
      simp only [fgr, bor, bS, w1, gE]
      exact ih (i + 1) h6 n6 _ _ _ _ _ _ _ (by omega) (fun j q => by rw [k6 j q]; exact k1 j q) y6 (by omega) f6
    ·have ec : y9 z w = some w := by unfold y9; rw [if_neg c1, if_neg (fun q => c3 q.2)]
     rw [ec] at hcs
     have e7 : oR z (L.take i) ++ w :: L.drop (i + 1) = oR z (L.take (i + 1)) ++ L.drop (i + 1) := by rw [hcs]; simp
     rw [e7] at y1
     simp only [fgr, bor, bS, aT, gt_iff_lt, c3, w1, gE]
     exact ih (i + 1) H1 (n + 1) _ _ _ _ _ _ _ (by omega) k1 y1 (by omega) f1
   ·have ec : y9 z w = some w := by unfold y9; rw [if_neg c1, if_neg (fun q => c2 q.1)]
    rw [ec] at hcs
    have e7 : oR z (L.take i) ++ w :: L.drop (i + 1) = oR z (L.take (i + 1)) ++ L.drop (i + 1) := by rw [hcs]; simp
    rw [e7] at y1
    simp only [fgr, bor, bS, aT, gt_iff_lt, c2, w1, gE]
    exact ih (i + 1) H1 (n + 1) _ _ _ _ _ _ _ (by omega) k1 y1 (by omega) f1
theorem f22 {W : Nat → Prop} {h : Hp} {n s : Nat} {L : List Ver} {I : List Inf} (q : St W h n s L I) (z : Int) (hI : I.length ≤ 900000) (hL : L.length ≤ 900000) (hf : bG h n) :
  Wp (bM env (aY env) 22 [.ptr s 0, .int .i64 z]) h n fun v' h' n' => (∀ j, j < n → j ≠ s → h' j = h j) ∧
   (((z < -1 ∨ ((I.length : Nat) : Int) - 1 < z) ∧ v' = .int .i64 221 ∧ St W h' n' s L I) ∨ (-1 ≤ z ∧ z ≤ ((I.length : Nat) : Int) - 1 ∧ v' = .int .i64 0 ∧ St W h' n' s (oR z L) (I.take (z + 1).toNat))) := by
 have sn := q.sn
 have qq := q
 obtain ⟨x, lv, rs, ix, il, sa, sb, sc⟩ := qq
 refine aZ ad3 ZN ?_
 simp only [R2, Try.f22, Option.getD_some, List.replicate, fgr, hkr, Nat.reduceAdd, Nat.reduceSub, Int.reduceNeg, gE]
 refine dA (f66 s x lv h n rs) ?_
 simp only [fgr, bor, Int.reduceNeg, gE]
 by_cases c1 : z < -1
 ·simp only [fgr, aT, Int.reduceNeg, c1, gE]
  exact ⟨fun j _ _ => trivial, .inl ⟨.inl trivial, q⟩⟩
 simp only [hkr, Int.reduceNeg, c1, gE]
 rw [aI (Q7 s x lv I h n rs il (by omega))]
 by_cases c2 : ((I.length : Nat) : Int) - 1 < z
 ·simp only [fgr, bor, aT, Int.reduceNeg, gt_iff_lt, c2, gE]
  exact ⟨fun j _ _ => trivial, .inl ⟨.inr trivial, q⟩⟩
 simp only [tyr, fgr, bor, aT, aQ, Int.reduceNeg, gt_iff_lt, c2, gE]
 rw [aI (rs.one (off := 0) rfl oC rfl)]
 simp only [hkr, Int.reduceNeg, gE]
 have ixx := ix
 obtain ⟨⟨D0, M0, ixi, ixk, ixt⟩, ixg⟩ := ixx
 refine aJ hf (f41 x L D0 M0 h n ixi (by omega) hf) fun v3 h3 n3 hn3 f3 ⟨y, M', e3, i3, hM, o3⟩ => ?_
 subst e3
 have y3 : Ixw (fun j => j < n) W h3 n3 y L := ⟨⟨D0, M', i3, fun j hj => ⟨by omega, fun w => by have := hM j w; omega⟩, fun j hj => ⟨by have := (ixt j hj).1; omega, (ixt j hj).2⟩⟩, ixg⟩
 simp only [fgr, hkr, Int.reduceNeg, gE]
 refine aJ f3 (af3 y3.k hL f3) fun v4 h4 n4 hn4 f4 ⟨l4, o4⟩ => ?_
 have y4 := y3.tK hn4 o4
 simp only [fgr, builtin, Int.reduceNeg, l4.len, gE]
 refine V0 _ _ (fun j => j < n ∨ (n3 ≤ j ∧ j < n4)) W v4 s y n3 n4 z L h4 (fun j w => by omega) (fun j a b => .inr ⟨a, b⟩) hL l4 ?_ L.length 0 h4 n4 _ _ _ _ _ _ _ (by omega) (fun j _ => rfl) (by simpa [oR] using y4) (Nat.le_refl _) f4
 intro h5 n5 x4 x7 x8 x11 x29 x32 x43 k5 y5 hn5 f5
 have K5 : ∀ j, j < n → h5 j = h j := fun j hj => by rw [k5 j (.inl hj), o4 j (by omega), o3 j hj]
 have rs5 : Row h5 s [.ptr x 0, lv] := rs.aS (K5 s sn)
 have il5 : IL h5 lv I := il.aS fun j w => K5 j (sa j w).1
 have w1 : IntKind.i64.wrap (z + 1) = ((z + 1).toNat : Int) := by rw [w64 (by omega) (by omega)]; omega
 have hk : (z + 1).toNat ≤ I.length := by omega
 simp only [tyr, aQ, Int.reduceNeg, gE]
 rw [aI (rs5.one (off := 1) rfl sP rfl)]
 simp only [opt, bor, bS, Int.reduceNeg, w1, gE]
 have il5' := il5
 obtain ⟨cells, cc1, cc2⟩ := il5'
 rw [aI (cc1.rds.QW cc1.SD u57 SZ rfl hk)]
 simp only [hkr, Int.reduceNeg, gE]
 refine aJ f5 (f71 (lH 0 (z + 1).toNat lv) (I.take (z + 1).toNat) h5 n5 (il5.pre hk) (by rw [List.length_take]; omega) f5) fun v6 h6 n6 hn6 f6 ⟨l6, i6, o6⟩ => ?_
 obtain ⟨et, hs6⟩ := rs5.aS (o6 s (by omega))
 simp only [tyr, aQ, Int.reduceNeg, gE]
 rw [eS (Row.eZ (off := 0) (v := .ptr y 0) hs6 oC rfl (by show 0 + 1 ≤ 2; omega) rfl)]
 obtain ⟨h7, hh7⟩ : ∃ h7, h7 = upd h6 s (some (.row (.l [.ptr y 0, lv]) et)) := ⟨_, rfl⟩
 show Ops _ _ _ _ _ _ _ _ (upd h6 s (some (.row (.l [.ptr y 0, lv]) et))) _
 rw [← hh7]
 have s7 : h7 s = some (.row (.l [.ptr y 0, lv]) et) := by rw [hh7, aP]
 have o7 : ∀ j, j ≠ s → h7 j = h6 j := fun j hj => by rw [hh7, aG _ _ hj]
 clear hh7
 have k6 := l6.kind
 simp only [tyr, aQ, Int.reduceNeg, gE]
 rw [eS (Row.eZ (off := 1) (v := v6) s7 sP (by rw [k6.1]; rfl) (by show 1 + 1 ≤ 2; omega) (by rw [k6.1]; simp [k6.2.1]))]
 rw [k6.1, show cH [a9.ptr y 0, lv] 1 [v6] = [a9.ptr y 0, v6] from rfl]
 obtain ⟨hZ, hhZ⟩ : ∃ hZ, hZ = upd h7 s (some (.row (.l [.ptr y 0, v6]) et)) := ⟨_, rfl⟩
 rw [← hhZ]
 have sZ : Row hZ s [.ptr y 0, v6] := ⟨et, by rw [hhZ, aP]⟩
 have oZ : ∀ j, j ≠ s → hZ j = h6 j := fun j h2 => by rw [hhZ, aG _ _ h2, o7 j h2]
 clear hhZ
 simp only [fgr, Int.reduceNeg, gE]
 obtain ⟨⟨D', M1, iy, kk6, tt6⟩, gg6⟩ := y5
 refine ⟨fun j h1 h2 => by rw [oZ j h2, o6 j (by omega), K5 j h1], .inr ⟨by omega, by omega, y, _, sZ, ⟨⟨D', M1, iy.oU (by omega) fun j h1 h2 => ?_, fun j w => ?_, fun j w => ?_⟩, gg6⟩, l6.aS fun j w => oZ j ?_, fun j w => ?_, sb, fun j w => ?_⟩⟩
 ·rw [oZ j, o6 j h1]
  intro e
  subst e
  rcases h2 with h2 | h2
  ·exact (tt6 j sb).2 h2
  ·exact (kk6 j (.inl (by omega))).2 h2
 ·have := sc j w
  exact ⟨by omega, (kk6 j (.inl this)).2⟩
 ·have := sc j w
  exact ⟨by omega, (tt6 j w).2⟩
 ·have := i6 j w
  omega
 ·have := i6 j w
  refine ⟨by omega, fun ww => ?_⟩
  have := sc j ww
  omega
 ·have := sc j w
  omega
theorem Ix.lt {h : Hp} {n x : Nat} {D M : Nat → Prop} {L : List Ver} (i : Ix h n D M x L) : ∀ j, (D j ∨ M j) → j < n := fun j w => by
 obtain ⟨⟨S, ⟨vl, vs, xl, xs, iv, mx, ml, ms, mn⟩, _⟩, _⟩ := i
 rcases w with w | w
 ·exact iv.dn j w
 ·exact (mn j w).1
theorem f28 {W : Nat → Prop} {h : Hp} {n s : Nat} {L : List Ver} {I : List Inf} (q : St W h n s L I) (hI : I.length ≤ 900000) (hL : L.length ≤ 900000) (hf : bG h n) :
  Wp (bM env (aY env) 28 [.ptr s 0]) h n fun v' h' n' => ∃ c, v' = .ptr c 0 ∧ n ≤ c ∧ St (fun j => W j ∨ j = c) h' n' c L I ∧ St (fun j => W j ∨ j = c) h' n' s L I ∧ Old h h' n := by
 have sn := q.sn
 obtain ⟨x, lv, rs, ix, il, sa, sb, sc⟩ := q
 refine aZ ad0 ZK ?_
 simp only [QZ, Try.f28, Option.getD_some, List.replicate, fgr, hkr, Nat.reduceSub, gE]
 refine dA (f66 s x lv h n rs) ?_
 simp only [bP, fgr, opd, bX, put, nth, aE]
 refine cP ⟨rfl, ?_⟩
 simp only [tyr, aQ, Nat.reduceAdd, gE]
 rw [bJ (rs.one (off := 0) rfl oC rfl)]
 simp only [hkr, Nat.reduceAdd, gE]
 obtain ⟨⟨D0, M0, ixi, ixk, ixt⟩, ixg⟩ := ix
 have ixs : Ix (only (fun j => decide (j ≠ s)) h) n D0 M0 x L := ixi.oU (Nat.le_refl _) fun j h1 h2 => gW (decide_eq_true fun e => by
  subst e
  rcases h2 with h2 | h2
  ·exact (ixt j sb).2 h2
  ·exact (ixk j sb).2 h2)
 refine uP (fun j => decide (j ≠ s)) hf (f41 x L D0 M0 _ n ixs (by omega) hf.only) fun v3 h3 n3 r3 w3 hr3 hn3 f3 ⟨y, M', e3, i3, hM, o3⟩ hin hout hr hw => ?_
 subst e3
 have O3 : Old h h3 n := fun j hj => by
  by_cases e : j = s
  ·exact hout j hj (decide_eq_false (by simpa using e))
  ·rw [hin j (.inl (decide_eq_true e)), o3 j hj, gW (decide_eq_true e)]
 have i3' : Ix h3 n3 D0 M' y L := i3.oU (Nat.le_refl _) fun j h1 h2 => by
  refine hin j ?_
  rcases h2 with h2 | h2
  ·exact .inl (decide_eq_true fun e => (ixt s sb).2 (e ▸ h2))
  ·exact .inr (hM j h2)
 have ns3 : s ∉ w3 := fun w => of_decide_eq_true (hw s w) rfl
 have rs3 := rs.aS (O3 s sn)
 simp only [tyr, aQ, Nat.reduceAdd, gE]
 rw [bJ (rs3.one (off := 1) rfl sP rfl)]
 have il3 : IL h3 lv I := il.aS fun j w => O3 j (sa j w).1
 simp only [hkr, Nat.reduceAdd, gE]
 refine eE f3 (f71 lv I h3 n3 il3 (by omega) f3) fun v4 h4 n4 r4 w4 hn4 f4 ⟨l4, i4, o4⟩ => ?_
 have k4 := l4.kind
 have b59 : build env 59 [(0, .ptr y 0), (1, v4)] = M.pure (.agg [.ptr y 0, v4]) := by
  obtain ⟨cells, c1, c2⟩ := l4
  generalize I.length = len at c1
  cases c1 <;> rfl
 simp only [Nat.reduceAdd, b59, gE]
 refine HB (v := .agg [.ptr y 0, v4]) HV rfl f4 fun H5 r5 w5 g5 o5 f5 => ?_
 simp only [fgr, Nat.reduceAdd, gE]
 refine ⟨(by (try simp (disch := first | assumption | omega) only [dW, gF]); repeat' (first | rfl | exact (Bool.or_eq_true _ _).mpr (.inr rfl) | refine (Bool.and_eq_true _ _).mpr ⟨?_, ?_⟩)), ?_⟩
 have O5 : ∀ j, j < n3 → H5 j = h3 j := fun j hj => by rw [o5 j (by omega), o4 j (by omega)]
 have old5 : Old h H5 n := fun j hj => by rw [O5 j (by omega), O3 j hj]
 have lt0 := ixi.lt
 have lt3 := i3'.lt
 have iZ : Ix H5 (n4 + 1) D0 M' y L := i3'.old (by omega) O5
 refine ⟨n4, rfl, by omega, ⟨y, v4, ⟨59, g5⟩, ⟨⟨D0, M', iZ, fun j w => ⟨?_, fun ww => ?_⟩, fun j w => ⟨?_, fun ww => ?_⟩⟩, ixg⟩, l4.aS fun j w => o5 j ?_, fun j w => ⟨?_, fun ww => ?_⟩, .inr rfl, fun j w => ?_⟩, ⟨x, lv, rs.aS (old5 s sn), ⟨⟨D0, M0, ixi.old (by omega) old5, fun j w => ⟨?_, fun ww => ?_⟩, fun j w => ⟨?_, fun ww => ?_⟩⟩, ixg⟩, il.aS fun j w => old5 j (sa j w).1, fun j w => ⟨?_, fun ww => ?_⟩, .inl sb, fun j w => ?_⟩, old5⟩
 ·rcases w with w | w
  ·have := sc j w; omega
  ·omega
 ·rcases w with w | w
  ·have := sc j w; have := hM j ww; omega
  ·have := lt3 j (.inr ww); omega
 ·rcases w with w | w
  ·have := sc j w; omega
  ·omega
 ·rcases w with w | w
  ·exact (ixt j w).2 ww
  ·have := lt3 j (.inl ww); omega
 ·have := i4 j w; omega
 ·have := i4 j w; omega
 ·have := i4 j w
  rcases ww with ww | ww
  ·have := sc j ww; omega
  ·omega
 ·rcases w with w | w
  ·have := sc j w; omega
  ·omega
 ·rcases w with w | w
  ·have := sc j w; omega
  ·omega
 ·rcases w with w | w
  ·exact (ixk j w).2 ww
  ·have := lt0 j (.inr ww); omega
 ·rcases w with w | w
  ·have := sc j w; omega
  ·omega
 ·rcases w with w | w
  ·exact (ixt j w).2 ww
  ·have := lt0 j (.inl ww); omega
 ·have := (sa j w).1; omega
 ·rcases ww with ww | ww
  ·exact (sa j w).2 ww
  ·have := (sa j w).1; omega
 ·rcases w with w | w
  ·have := sc j w; omega
  ·omega
def asV (z : Int) (v : Ver) : Ver := if z < v.cV then iU v 0 z32 else v
theorem f62 (v : Ver) (sv : a9) (z : Int) (ov : v.Ok) (hs : sv.cells = [sv] ∧ bI sv = true ∧ dV sv = false) (h : Hp) (n : Nat) (hf : bG h n) :
  Wp (bM env (aY env) 62 [.agg (aK v sv), .int .i64 z]) h n fun v' h' n' => v' = .agg (aK (asV z v) sv) ∧ Old h h' n := by
 refine aZ az2 ao6 ?_
 simp only [W4, Try.f62, Option.getD_some, List.replicate, Nat.reduceAdd, Nat.reduceSub, gE]
 refine dU (v := .agg (aK v sv)) eB rfl hf fun H1 r1 o1 f1 => ?_
 replace r1 : Row H1 n (aK v sv) := r1
 simp only [gE]
 rw [cD eB rfl]
 obtain ⟨H2, hH2⟩ : ∃ H2, H2 = upd H1 (n + 1) (some (.row (.l (aK noV .aV)) 31)) := ⟨_, rfl⟩
 have g2 : H2 (n + 1) = some (.row (.l (aK noV .aV)) 31) := by rw [hH2, aP]
 have o2 : ∀ j, j ≠ n + 1 → H2 j = H1 j := fun j hj => by rw [hH2, aG _ _ hj]
 show Ops _ _ _ _ _ _ _ _ (upd H1 (n + 1) (some (.row (.l (aK noV .aV)) 31))) _
 rw [← hH2]
 clear hH2
 obtain ⟨et, g1⟩ := r1.aS (o2 n (by omega))
 have old2 : Old h H2 n := fun j hj => by rw [o2 j (by omega), o1 j (by omega)]
 simp only [tyr, fgr, aQ, gE]
 rw [aI (eP ⟨et, g1⟩ ov)]
 have fin : ∀ (u : Ver) (H : Hp), u.Ok → H n = some (.row (.l (aK u sv)) et) → H (n + 1) = some (.row (.l (aK noV .aV)) 31) → Old h H n → asV z v = u → Wp (load env 31 (.ptr n 0)) H (n + 1 + 1) fun w h' n' => w = .agg (aK u sv) ∧ h' = H ∧ n' = n + 1 + 1 := fun u H ou q1 q2 q3 q4 => (fI ⟨et, q1⟩ ou).wp
 by_cases c : z < v.cV
 ·have ea : asV z v = iU v 0 z32 := by unfold asV; rw [if_pos c]
  rw [ea]
  simp only [tyr, fgr, bor, aQ, gt_iff_lt, c, b25, gE]
  have hsp : cH (aK v sv) 37 [a9.int .i64 0] = aK { v with cV := 0 } sv := nC ov.h 0
  rw [eS (Row.eZ (off := 37) (v := .int .i64 0) g1 ti3 rfl (by rw [bD ov.h ov.b]; show 37 + 1 ≤ 70; omega) rfl)]
  rw [show cH (aK v sv) 37 (a9.int .i64 0).cells = aK { v with cV := 0 } sv from hsp]
  obtain ⟨H3, hH3⟩ : ∃ H3, H3 = upd H2 n (some (.row (.l (aK { v with cV := 0 } sv)) et)) := ⟨_, rfl⟩
  rw [← hH3]
  have g3 : H3 n = some (.row (.l (aK { v with cV := 0 } sv)) et) := by rw [hH3, aP]
  have o3 : ∀ j, j ≠ n → H3 j = H2 j := fun j hj => by rw [hH3, aG _ _ hj]
  clear hH3
  have ov3 : Ver.Ok { v with cV := 0 } := ⟨ov.h, ov.b⟩
  have w2 : cH (aK { v with cV := 0 } sv) 38 (a9.agg (z32.map u8)).cells = aK (iU v 0 z32) sv := rR (w := { v with cV := 0 }) ov.h ov.b z32 rfl
  simp only [tyr, aQ, gE]
  rw [eS (Row.eZ (off := 38) (v := .agg (z32.map u8)) g3 kH (by show (z32.map u8).length = 32; rfl) (by rw [bD ov3.h ov3.b]; show 38 + 32 ≤ 70; omega) (by decide))]
  rw [w2]
  obtain ⟨H4, hH4⟩ : ∃ H4, H4 = upd H3 n (some (.row (.l (aK (iU v 0 z32) sv)) et)) := ⟨_, rfl⟩
  rw [← hH4]
  have g4 : H4 n = some (.row (.l (aK (iU v 0 z32) sv)) et) := by rw [hH4, aP]
  have o4 : ∀ j, j ≠ n → H4 j = H3 j := fun j hj => by rw [hH4, aG _ _ hj]
  clear hH4
  have ov4 : (iU v 0 z32).Ok := ⟨ov.h, rfl⟩
  simp only [fgr, gE]
  rw [aI (fI ⟨et, g4⟩ ov4)]
  simp only [gE]
  rw [eS (Row.eZ (off := 0) (v := .agg (aK (iU v 0 z32) sv)) (show H4 (n + 1) = some (.row (.l (aK noV .aV)) 31) by rw [o4 _ (by omega), o3 _ (by omega)]; exact g2) eB (bD ov4.h ov4.b) (by show 0 + 70 ≤ 70; omega) (cS hs.2.1))]
  rw [eL (by show (aK _ _).length = _; rw [bD ov4.h ov4.b]; rfl)]
  simp only [bP, fgr, bX, nth, aE, cel, true_and]
  refine fL (Row.gT (cs := aK (iU v 0 z32) sv) ⟨31, aP _ _ _⟩ eB rfl (bD ov4.h ov4.b)) (aM.2 ?_)
  exact ⟨rfl, fun j hj => by rw [aG _ _ (by omega), o4 j (by omega), o3 j (by omega), old2 j hj]⟩
 ·have ea : asV z v = v := by unfold asV; rw [if_neg c]
  rw [ea]
  simp only [fgr, bor, gt_iff_lt, c, gE]
  rw [aI (fI ⟨et, g1⟩ ov)]
  simp only [gE]
  rw [eS (Row.eZ (off := 0) (v := .agg (aK v sv)) g2 eB (bD ov.h ov.b) (by show 0 + 70 ≤ 70; omega) (cS hs.2.1))]
  rw [eL (by show (aK _ _).length = _; rw [bD ov.h ov.b]; rfl)]
  simp only [bP, fgr, bX, nth, aE, cel, true_and]
  refine fL (Row.gT (cs := aK v sv) ⟨31, aP _ _ _⟩ eB rfl (bD ov.h ov.b)) (aM.2 ?_)
  exact ⟨rfl, fun j hj => by rw [aG _ _ (by omega), old2 j hj]⟩
def qA (L : List Ver) (I : List Inf) (aO : List UInt8) (pn z : Int) : Option Ver := match gS I z with
 | some _ => atV L aO pn z
 | none => none
theorem aE6 : build env 31 [] = M.pure (.agg (aK noV .aV)) := rfl
theorem PD {v : Ver} (o : v.Ok) (z : Int) : (asV z v).Ok := by
 unfold asV
 split
 ·exact ⟨o.h, rfl⟩
 ·exact o
theorem yU (v : Ver) (z : Int) : (asV z v).aL = v.aL := by
 unfold asV
 split <;> rfl
theorem f15 {W : Nat → Prop} {h : Hp} {n s : Nat} {L : List Ver} {I : List Inf} (q : St W h n s L I) (aO : List UInt8) (pn z : Int) (hl : aO.length = 32) (hI : I.length ≤ 900000) (hL : L.length ≤ 900000) (hf : bG h n) :
  Wp (bM env (aY env) 15 [.ptr s 0, .agg (aX aO pn), .int .i64 z]) h n fun v' h' n' => Old h h' n ∧ ∃ s', v' = .tup [.agg (aK (((qA L I aO pn z).map (asV z)).getD noV) s'), .bool (qA L I aO pn z).isSome, .int .i64 (mH (gS I z))] ∧ (((qA L I aO pn z).map (asV z)).getD noV).Ok ∧ Bytes h' s' (((qA L I aO pn z).map (asV z)).getD noV).aL ∧ ∀ j, bB s' = some j → n ≤ j ∧ j < n' := by
 refine aZ aB1 aq9 ?_
 simp only [WO, Try.f15, Option.getD_some, List.replicate, Nat.reduceAdd, Nat.reduceSub, gE]
 refine dU (v := .agg (aX aO pn)) j7 rfl hf fun H1 r1 o1 f1 => ?_
 replace r1 : Row H1 n (aX aO pn) := r1
 simp only [gE]
 rw [cD eB rfl]
 obtain ⟨H2, hH2⟩ : ∃ H2, H2 = upd H1 (n + 1) (some (.row (.l (aK noV .aV)) 31)) := ⟨_, rfl⟩
 have g2 : H2 (n + 1) = some (.row (.l (aK noV .aV)) 31) := by rw [hH2, aP]
 have o2 : ∀ j, j ≠ n + 1 → H2 j = H1 j := fun j hj => by rw [hH2, aG _ _ hj]
 have f2 : bG H2 (n + 1 + 1) := by rw [hH2]; exact f1.new
 show Ops _ _ _ _ _ _ _ _ (upd H1 (n + 1) (some (.row (.l (aK noV .aV)) 31))) _
 rw [← hH2]
 clear hH2
 have old2 : Old h H2 n := fun j hj => by rw [o2 j (by omega), o1 j (by omega)]
 have q2 := q.old (n' := n + 1 + 1) (by omega) old2
 simp only [fgr, hkr, gE]
 refine aJ f2 (f25 q2 z (by omega) f2) fun v3 h3 n3 hn3 f3 ⟨e3, ob3, o3⟩ => ?_
 subst e3
 have q3 := q2.old hn3 o3
 simp only [gE]
 rw [cD gJ rfl]
 simp only [cel, gE]
 refine dM (v := .agg (bQ ((gS I z).getD eN))) gJ rfl (bV ob3) (eM _) f3 fun H4 r4 o4 f4 => ?_
 have O4 : Old h3 H4 n3 := fun j hj => o4 j (by omega)
 have q4 := q3.old (n' := n3 + 1) (by omega) O4
 have OO : ∀ j, j < n + 1 + 1 → H4 j = H2 j := fun j hj => by rw [O4 j (by omega), o3 j hj]
 have g4 : H4 (n + 1) = some (.row (.l (aK noV .aV)) 31) := (OO _ (by omega)).trans g2
 cases hi : gS I z with
 | none =>
  have hc : qA L I aO pn z = none := by unfold qA; rw [hi]
  rw [hc]
  simp only [fgr, bor, Int.reduceEq, mH, aE6, gE]
  rw [eS (Row.eZ (v := .agg (aK noV .aV)) g4 eB rfl (by show 0 + 70 ≤ 70; omega) (by decide))]
  rw [eL (by rfl)]
  simp only [fgr, cel, gE]
  refine fL (Row.gT (cs := aK noV .aV) ⟨31, aP _ _ _⟩ eB rfl rfl) (aM.2 ?_)
  exact ⟨fun j hj => by rw [aG _ _ (by omega), OO j (by omega), old2 j hj], .aV, rfl, MA, .aV, fun j w => by cases w⟩
 | some i =>
  have hc : qA L I aO pn z = atV L aO pn z := by unfold qA; rw [hi]
  rw [hc]
  obtain ⟨x, lv, rs, ix, il, sa, sb, sc⟩ := q4
  have r14 : Row H4 n (aX aO pn) := (r1.aS (o2 n (by omega))).aS (OO n (by omega))
  simp only [fgr, bor, mH, gE]
  refine cP ⟨rfl, ?_⟩
  simp only [tyr, aQ, Nat.reduceAdd, gE]
  rw [bJ (rs.one (off := 0) rfl oC rfl)]
  simp only [Nat.reduceAdd, gE]
  have hld : Rd (load env 28 (.ptr n 0)) H4 (n3 + 1) [n] (.agg (aX aO pn)) := Row.gT r14 j7 rfl (c9 hl)
  rw [bJ hld]
  simp only [hkr, Nat.reduceAdd, gE]
  refine HA f4 (X2 aO pn z hl ix.k hL f4) fun v5 h5 n5 rr5 ww5 hn5 f5 ⟨o5, sA, e5, okA, bA, iA⟩ qr5 qw5 => ?_
  subst e5
  have cr0 : ∀ id, id ∈ [s] → id < n5 ∨ n5 + 1 ≤ id := fun id w => by rw [List.mem_singleton] at w; have := sc s sb; omega
  have cr1 : ∀ id, id ∈ [n] → id < n5 ∨ n5 + 1 ≤ id := fun id w => by rw [List.mem_singleton] at w; omega
  have cr2 : ∀ id, id ∈ ([] : List Nat) → id < n5 ∨ n5 + 1 ≤ id := fun id w => by cases w
  have cr3 : ∀ id, id ∈ rr5 → id < n5 ∨ n5 + 1 ≤ id := fun id w => .inl (by have := qr5 id w; omega)
  have cw3 : ∀ id, id ∈ ww5 → id < n5 ∨ n5 + 1 ≤ id := fun id w => .inl (by have := qw5 id w; omega)
  obtain ⟨u, hu⟩ : ∃ u, u = (atV L aO pn z).getD noV := ⟨_, rfl⟩
  rw [← hu] at okA bA
  rw [← hu]
  simp only [Nat.reduceAdd, gE]
  refine AB eB rfl f5 fun H6 g6 o6 f6 => ?_
  simp only [Nat.reduceAdd, gE]
  refine jZ (Row.eZ (v := .agg (aK u sA)) (show H6 n5 = some (.row (.l (aK noV .aV)) 31) from g6) eB (bD okA.h okA.b) (by show 0 + 70 ≤ 70; omega) (cS bA.kind.2.1)) ?_
  rw [eL (by show (aK _ _).length = _; rw [bD okA.h okA.b]; rfl)]
  obtain ⟨H7, hH7⟩ : ∃ H7, H7 = upd H6 n5 (some (.row (.l (aK u sA)) 31)) := ⟨_, rfl⟩
  show Fe _ _ _ _ _ _ _ _ _ _ (upd H6 n5 (some (.row (.l (aK u sA)) 31))) _
  rw [← hH7]
  have r7 : Row H7 n5 (aK u sA) := ⟨31, by rw [hH7, aP]⟩
  have o7 : ∀ j, j ≠ n5 → H7 j = h5 j := fun j hj => by rw [hH7, aG _ _ hj, o6 j hj]
  have f7 : bG H7 (n5 + 1) := by rw [hH7]; exact f6.upd (by omega)
  clear hH7
  simp only [fgr, Nat.reduceAdd, gE]
  refine ⟨(by (try simp (disch := first | assumption | omega) only [dW, gF]); repeat' (first | rfl | exact (Bool.or_eq_true _ _).mpr (.inr rfl) | refine (Bool.and_eq_true _ _).mpr ⟨?_, ?_⟩)), ?_⟩
  rw [aI (fI r7 okA)]
  simp only [hkr, gE]
  refine aJ f7 (f62 u sA z okA bA.kind H7 (n5 + 1) f7) fun v8 h8 n8 hn8 f8 ⟨e8, o8⟩ => ?_
  subst e8
  have okB := PD okA z
  have g8 : h8 (n + 1) = some (.row (.l (aK noV .aV)) 31) := by rw [o8 _ (by omega), o7 _ (by omega), o5 _ (by omega)]; exact g4
  simp only [gE]
  rw [eS (Row.eZ (v := .agg (aK (asV z u) sA)) g8 eB (bD okB.h okB.b) (by show 0 + 70 ≤ 70; omega) (cS bA.kind.2.1))]
  rw [eL (by show (aK _ _).length = _; rw [bD okB.h okB.b]; rfl)]
  simp only [fgr, cel, gE]
  refine fL (Row.gT (cs := aK (asV z u) sA) ⟨31, aP _ _ _⟩ eB rfl (bD okB.h okB.b)) (aM.2 ?_)
  have eu : (((atV L aO pn z).map (asV z)).getD noV) = asV z u := by
   rw [hu]
   cases atV L aO pn z with
   | none =>
    show noV = asV z noV
    unfold asV
    split <;> rfl
   | some w => rfl
  rw [eu]
  refine ⟨fun j hj => by rw [aG _ _ (by omega), o8 j (by omega), o7 j (by omega), o5 j (by omega), OO j (by omega), old2 j hj], sA, rfl, okB, ?_, fun j w => ?_⟩
  ·rw [yU]
   exact bA.aS fun j w => by
    have := iA j w
    rw [aG _ _ (by omega), o8 j (by omega), o7 j (by omega)]
  ·have := iA j w
   omega
def AU (l : List Ver) : Int := l.foldl (fun n v => uN (n + v.value)) 0
theorem UF {l : List Ver} {i : Nat} (h : i < l.length) : AU (l.take (i + 1)) = uN (AU (l.take i) + l[i].value) := by
 unfold AU
 rw [kL h, List.foldl_append]; rfl
def FW (L : List Ver) (I : List Inf) (aL : List UInt8) (z : Int) : Int := match gS I z with
 | some _ => AU (ofV L aL z)
 | none => 0
theorem UZ (Q : fC) (ks : List Kf) (v : a9) (a b : Nat) (l : List Ver) (h0 : Hp) (hl : l.length ≤ 900000) (hv : VL h0 a b v l)
  (hT : ∀ (h : Hp) (n : Nat) (x0 x1 x2 x9 x12 x20 x31 : a9), Old h0 h b → b ≤ n → bG h n → eR env 60 none Q ks (.exit 0) (x0 :: x1 :: x2 :: a9.aA :: a9.aA :: a9.aA :: .int .i64 0 :: .int .i64 0 :: a9.aA :: x9 :: .int .i64 (AU l) :: a9.aA :: x12 :: a9.aA :: a9.aA :: a9.aA :: a9.aA :: a9.aA :: a9.aA :: a9.aA :: x20 :: a9.aA :: a9.aA :: a9.aA :: a9.aA :: a9.aA :: a9.aA :: a9.aA :: v :: .int .i64 (l.length : Nat) :: .int .i64 (l.length : Nat) :: x31 :: a9.aA :: a9.aA :: a9.aA :: a9.aA :: a9.aA :: a9.aA :: a9.aA :: a9.aA :: []) h n) :
  ∀ (m i : Nat) (h : Hp) (n : Nat) (x0 x1 x2 x9 x12 x20 x31 : a9), i + m = l.length → Old h0 h b → b ≤ n → bG h n →
   Run env 60 none Q (.loop EN) ks (x0 :: x1 :: x2 :: a9.aA :: a9.aA :: a9.aA :: .int .i64 0 :: .int .i64 0 :: a9.aA :: x9 :: .int .i64 (AU (l.take i)) :: a9.aA :: x12 :: a9.aA :: a9.aA :: a9.aA :: a9.aA :: a9.aA :: a9.aA :: a9.aA :: x20 :: a9.aA :: a9.aA :: a9.aA :: a9.aA :: a9.aA :: a9.aA :: a9.aA :: v :: .int .i64 (l.length : Nat) :: .int .i64 (i : Nat) :: x31 :: a9.aA :: a9.aA :: a9.aA :: a9.aA :: a9.aA :: a9.aA :: a9.aA :: a9.aA :: []) h n := by
 intro m
 induction m with
 | zero =>
  intro i h n x0 x1 x2 x9 x12 x20 x31 hm ho hn hf
  have : i = l.length := by omega
  subst this
  rw [List.take_length]
  rw [cY]
  have hcc : ¬ (((l.length : Nat) : Int) < ((l.length : Nat) : Int)) := by omega
  simp only [EN, c8, Try.f60, Option.getD_some, fgr, bor, List.getD_cons_zero, hcc, gE]
  exact hT h n _ _ _ _ _ _ _ ho hn hf
 | succ m ih =>
  intro i h n x0 x1 x2 x9 x12 x20 x31 hm ho hn hf
  have hv' := hv.old (Nat.le_refl _) ho
  have hil : i < l.length := by omega
  have hcc : (((i : Nat) : Int) < ((l.length : Nat) : Int)) := by omega
  have w1 : IntKind.i64.wrap (((i : Nat) : Int) + 1) = ((i + 1 : Nat) : Int) := by rw [w64 (by omega) (by omega)]; omega
  obtain ⟨sw, va⟩ := hv'.at_ hil
  have hs := UF hil
  generalize l[i] = w at *
  rw [cY]
  simp only [EN, c8, Try.f60, Option.getD_some, fgr, bor, List.getD_cons_zero, hcc, gE]
  rw [aI (hv'.idx hil)]
  simp only [gE]
  rw [aI (va.all n)]
  simp only [gE]
  rw [cD eB rfl]
  simp only [cel, gE]
  have kd := va.s.kind
  refine dM (v := .agg (aK w sw)) eB rfl (bD va.ok.h va.ok.b) (cS kd.2.1) hf fun H1 r1 p1 f1 => ?_
  replace r1 : Row H1 n (aK w sw) := r1
  simp only [tyr, fgr, aQ, gE]
  rw [aI (nI r1 va.ok)]
  have hs' : IntKind.i64.wrap (AU (l.take i) + w.value) = AU (l.take (i + 1)) := hs.symm
  simp only [fgr, bor, bS, w1, hs', gE]
  exact ih (i + 1) H1 (n + 1) _ _ _ _ _ _ _ (by omega) (fun j hj => by rw [p1 j (by omega), ho j hj]) (by omega) f1
theorem f60 {W : Nat → Prop} {h : Hp} {n s : Nat} {L : List Ver} {I : List Inf} (q : St W h n s L I) (sv : a9) (aL : List UInt8) (z : Int) (hb : Bytes h sv aL) (hsn : ∀ j, bB sv = some j → j < n) (hI : I.length ≤ 900000) (hL : L.length ≤ 900000) (hf : bG h n) :
  Wp (bM env (aY env) 60 [.ptr s 0, sv, .int .i64 z]) h n fun v' h' n' => v' = .tup [.int .i64 (FW L I aL z), .int .i64 (mH (gS I z))] ∧ Old h h' n := by
 refine aZ az3 ao7 ?_
 simp only [W5, Try.f60, Option.getD_some, List.replicate, fgr, hkr, Nat.reduceAdd, Nat.reduceSub, gE]
 refine aJ hf (f25 q z (by omega) hf) fun v3 h3 n3 hn3 f3 ⟨e3, ob3, o3⟩ => ?_
 subst e3
 simp only [gE]
 rw [cD gJ rfl]
 simp only [cel, gE]
 refine dM (v := .agg (bQ ((gS I z).getD eN))) gJ rfl (bV ob3) (eM _) f3 fun H4 r4 o4 f4 => ?_
 have O4 : Old h H4 n := fun j hj => by rw [o4 j (by omega), o3 j hj]
 have q4 := q.old (n' := n3 + 1) (by omega) O4
 cases hi : gS I z with
 | none =>
  have hc : FW L I aL z = 0 := by unfold FW; rw [hi]
  rw [hc]
  simp only [fgr, bor, Int.reduceEq, mH, gE]
  exact O4
 | some i =>
  have hc : FW L I aL z = AU (ofV L aL z) := by unfold FW; rw [hi]
  rw [hc]
  obtain ⟨x, lv, rs, ix, il, sa, sb, sc⟩ := q4
  simp only [tyr, fgr, bor, aQ, mH, gE]
  rw [aI (rs.one (off := 0) rfl oC rfl)]
  simp only [hkr, gE]
  have hb4 : Bytes H4 sv aL := hb.aS fun j w => O4 j (hsn j w)
  refine aJ f4 (aB9 sv aL z ix.k hb4 (fun j w => by have := hsn j w; omega) hL f4) fun v5 h5 n5 hn5 f5 ⟨l5, o5⟩ => ?_
  simp only [fgr, builtin, l5.len, gE]
  have hlen : (ofV L aL z).length ≤ 900000 := Nat.le_trans (List.length_filter_le _ _) hL
  refine UZ _ _ v5 (n3 + 1) n5 (ofV L aL z) h5 hlen l5 ?_ (ofV L aL z).length 0 h5 n5 _ _ _ _ _ _ _ (by omega) (Old.refl _ _) (Nat.le_refl _) f5
  intro h6 n6 x0 x1 x2 x9 x12 x20 x31 o6 hn6 f6
  simp only [fgr, gE]
  exact fun j hj => by rw [o6 j (by omega), o5 j (by omega), O4 j hj]
def trV (z : Int) (l : List Ver) : List Ver := (l.filter fun v => decide (v.made ≤ z)).map (asV z)
theorem Y7 {l : List Ver} {i : Nat} (h : i < l.length) (z : Int) : trV z (l.take (i + 1)) = if l[i].made ≤ z then trV z (l.take i) ++ [asV z l[i]] else trV z (l.take i) := by
 unfold trV
 rw [kL h, List.filter_append, List.map_append]
 by_cases c : l[i].made ≤ z
 ·rw [if_pos c]; simp [c]
 ·rw [if_neg c]; simp [c]
theorem TZ (z : Int) (l : List Ver) : (trV z l).length ≤ l.length := by
 unfold trV
 rw [List.length_map]
 exact List.length_filter_le _ _
def pB (L : List Ver) (I : List Inf) (aO : List UInt8) (pn z : Int) : List Ver := match gS I z with
 | some _ => trV z (CZ L aO pn)
 | none => []
theorem V1 (Q : fC) (ks : List Kf) (v : a9) (a b : Nat) (z : Int) (l : List Ver) (h0 : Hp) (hl : l.length ≤ 900000) (hv : VL h0 a b v l) (hab : a ≤ b)
  (hT : ∀ (h : Hp) (n : Nat) (acc : a9) (cells : List a9) (x0 x1 x4 x9 x12 x20 x30 x36 : a9), Lst h 31 70 acc (trV z l).length cells → Vs h (fun j => a ≤ j ∧ j < n ∧ bB acc ≠ some j) cells (trV z l) → (∀ j, bB acc = some j → b ≤ j) → b ≤ n → bG h n → Old h0 h b →
   eR env 21 none Q ks (.exit 0) (x0 :: x1 :: .int .i64 z :: a9.aA :: x4 :: a9.aA :: .aV :: .int .i64 0 :: a9.aA :: x9 :: acc :: a9.aA :: x12 :: a9.aA :: a9.aA :: a9.aA :: a9.aA :: a9.aA :: a9.aA :: a9.aA :: x20 :: a9.aA :: a9.aA :: a9.aA :: a9.aA :: a9.aA :: a9.aA :: v :: .int .i64 (l.length : Nat) :: .int .i64 (l.length : Nat) :: x30 :: a9.aA :: a9.aA :: a9.aA :: a9.aA :: a9.aA :: x36 :: a9.aA :: a9.aA :: a9.aA :: a9.aA :: a9.aA :: a9.aA :: a9.aA :: a9.aA :: []) h n) :
  ∀ (m i : Nat) (h : Hp) (n : Nat) (acc : a9) (cells : List a9) (x0 x1 x4 x9 x12 x20 x30 x36 : a9), i + m = l.length → Lst h 31 70 acc (trV z (l.take i)).length cells → Vs h (fun j => a ≤ j ∧ j < n ∧ bB acc ≠ some j) cells (trV z (l.take i)) → (∀ j, bB acc = some j → b ≤ j) → b ≤ n → bG h n → Old h0 h b →
   Run env 21 none Q (.loop EP) ks (x0 :: x1 :: .int .i64 z :: a9.aA :: x4 :: a9.aA :: .aV :: .int .i64 0 :: a9.aA :: x9 :: acc :: a9.aA :: x12 :: a9.aA :: a9.aA :: a9.aA :: a9.aA :: a9.aA :: a9.aA :: a9.aA :: x20 :: a9.aA :: a9.aA :: a9.aA :: a9.aA :: a9.aA :: a9.aA :: v :: .int .i64 (l.length : Nat) :: .int .i64 (i : Nat) :: x30 :: a9.aA :: a9.aA :: a9.aA :: a9.aA :: a9.aA :: x36 :: a9.aA :: a9.aA :: a9.aA :: a9.aA :: a9.aA :: a9.aA :: a9.aA :: a9.aA :: []) h n := by
 intro m
 induction m with
 | zero =>
  intro i h n acc cells x0 x1 x4 x9 x12 x20 x30 x36 hm ha hV hi hn hf ho
  have : i = l.length := by omega
  subst this
  rw [List.take_length] at ha hV
  rw [cY]
  have hcc : ¬ (((l.length : Nat) : Int) < ((l.length : Nat) : Int)) := by omega
  simp only [EP, c8, Try.f21, Option.getD_some, fgr, bor, List.getD_cons_zero, hcc, gE]
  exact hT h n acc cells _ _ _ _ _ _ _ _ ha hV hi hn hf ho
 | succ m ih =>
  intro i h n acc cells x0 x1 x4 x9 x12 x20 x30 x36 hm ha hV hi hn hf ho
  have hv' := hv.old (Nat.le_refl _) ho
  have hil : i < l.length := by omega
  have hcc : (((i : Nat) : Int) < ((l.length : Nat) : Int)) := by omega
  have w1 : IntKind.i64.wrap (((i : Nat) : Int) + 1) = ((i + 1 : Nat) : Int) := by rw [w64 (by omega) (by omega)]; omega
  obtain ⟨sw, va⟩ := hv'.at_ hil
  have hs := Y7 hil z
  generalize l[i] = w at *
  rw [cY]
  simp only [EP, c8, Try.f21, Option.getD_some, fgr, bor, List.getD_cons_zero, hcc, gE]
  rw [aI (hv'.idx hil)]
  simp only [gE]
  rw [aI (va.all n)]
  simp only [gE]
  rw [cD eB rfl]
  simp only [cel, gE]
  have kd := va.s.kind
  refine dM (v := .agg (aK w sw)) eB rfl (bD va.ok.h va.ok.b) (cS kd.2.1) hf fun H1 r1 p1 f1 => ?_
  replace r1 : Row H1 n (aK w sw) := r1
  have accl : ∀ j, bB acc = some j → j < n := fun j q => ha.eT hf q
  have O1 : Old h0 H1 b := fun j hj => by rw [p1 j (by omega), ho j hj]
  have ha1 := ha.aS (h' := H1) fun j q => p1 j (by have := accl j q; omega)
  have hV1 := hV.mono (h' := H1) (D' := fun j => a ≤ j ∧ j < n + 1 ∧ bB acc ≠ some j) (fun j q => ⟨q.1, by omega, q.2.2⟩) (fun j q => p1 j (by omega))
  simp only [tyr, fgr, aQ, gE]
  rw [aI (gV r1 va.ok)]
  by_cases c : w.made ≤ z
  ·rw [if_pos c] at hs
   simp only [fgr, bor, c, gE]
   rw [aI (fI r1 va.ok)]
   simp only [hkr, gE]
   refine aJ f1 (f62 w sw z va.ok kd H1 (n + 1) f1) fun v2 h2 n2 hn2 f2 ⟨e2, o2⟩ => ?_
   subst e2
   have okB := PD va.ok z
   simp only [DY (bD okB.h okB.b), gE]
   refine fD eB f2 (f := fun id => a9.sl id 0 1 (some 1) 70) fun H3 g3 o3 f3 => ?_
   simp only [builtin, gE]
   have o13 : Old H1 H3 (n + 1) := fun j hj => by rw [o3 j (by omega), o2 j hj]
   have ha3 := ha1.aS (h' := H3) (fun j q => o13 j (by have := accl j q; omega))
   have hV3 := hV1.mono (h' := H3) (D' := fun j => a ≤ j ∧ j < n + 1 ∧ bB acc ≠ some j) (fun j q => q) (fun j q => o13 j q.2.1)
   have hlen : (trV z (l.take i)).length ≤ 900000 := by
    have h1 := TZ z (l.take i)
    have h2 : (l.take i).length ≤ l.length := by rw [List.length_take]; omega
    omega
   refine j3 (i := fX.i) (e := 31) ha3 (mV (cnt := 1) g3 (by rw [bD okB.h okB.b]; rfl)) u43 u43 eB (cS kd.2.1) (by decide) (by show 2 * (_ + 1) * 128 ≤ _; omega) (by omega) f3 ?_
   intro acc' h4 n4 hn4 f4 l4 i4 o4
   simp only [fgr, bor, bS, w1, gE]
   have i4' : ∀ j, bB acc' = some j → b ≤ j := fun j q => by
    rcases i4 with w | ⟨w, _⟩
    ·rw [w] at q; exact hi j q
    ·rw [w] at q; injection q with q; omega
   have hne : ∀ j, j < n2 + 1 → bB acc ≠ some j → bB acc' ≠ some j := fun j hj hn q => by
    rcases i4 with w | ⟨w, _⟩
    ·rw [w] at q; exact hn q
    ·rw [w] at q; injection q with q; omega
   have hV4 := hV3.mono (h' := h4) (D' := fun j => a ≤ j ∧ j < n4 ∧ bB acc' ≠ some j) (fun j q => ⟨q.1, by omega, hne j (by omega) q.2.2⟩) (fun j q => o4 j (by omega) q.2.2)
   have swl : ∀ j, bB sw = some j → a ≤ j ∧ j < b := va.sn
   have swa : ∀ j, bB sw = some j → bB acc ≠ some j := fun j q w => by have := hi j w; have := swl j q; omega
   have b4 : Bytes h4 sw (asV z w).aL := by
    rw [yU]
    exact va.s.aS fun j q => by
     have := swl j q
     rw [o4 j (by omega) (swa j q), o13 j (by omega), p1 j (by omega)]
   have hV5 := hV4.vN b4 okB (fun j q => ⟨(swl j q).1, by have := swl j q; omega, hne j (by have := swl j q; omega) (swa j q)⟩)
   rw [← hs] at hV5
   have l5 : Lst h4 31 70 acc' (trV z (l.take (i + 1))).length (cells ++ aK (asV z w) sw) := by
    rw [hs, List.length_append]; exact l4
   exact ih (i + 1) h4 n4 acc' _ _ _ _ _ _ _ _ _ (by omega) l5 hV5 i4' (by omega) f4 (fun j hj => by rw [o4 j (by omega) (fun q => by have := hi j q; omega), o13 j (by omega), O1 j hj])
  ·rw [if_neg c] at hs
   rw [← hs] at ha1 hV1
   simp only [fgr, bor, bS, c, w1, gE]
   exact ih (i + 1) H1 (n + 1) acc cells _ _ _ _ _ _ _ _ (by omega) ha1 hV1 hi (by omega) f1 O1
end Go.Am.Ytlgebaofkolkoaa
set_option linter.unusedSimpArgs false
set_option linter.unusedVariables false
set_option linter.defProp false
set_option maxRecDepth 10000
namespace Go.Am.Ytlgebaofkolkoaa
open Go Go.Am Go.Proofs
theorem f21 {W : Nat → Prop} {h : Hp} {n s : Nat} {L : List Ver} {I : List Inf} (q : St W h n s L I) (aO : List UInt8) (pn z : Int) (hl : aO.length = 32) (hI : I.length ≤ 900000) (hL : L.length ≤ 900000) (hf : bG h n) :
  Wp (bM env (aY env) 21 [.ptr s 0, .agg (aX aO pn), .int .i64 z]) h n fun v' h' n' => Old h h' n ∧ ∃ u, v' = .tup [u, .int .i64 (mH (gS I z))] ∧ VL h' n n' u (pB L I aO pn z) := by
 refine aZ aA8 aq6 ?_
 simp only [WL, Try.f21, Option.getD_some, List.replicate, Nat.reduceAdd, Nat.reduceSub, gE]
 refine dU (v := .agg (aX aO pn)) j7 rfl hf fun H1 r1 o1 f1 => ?_
 replace r1 : Row H1 n (aX aO pn) := r1
 have O1 : Old h H1 n := fun j hj => o1 j (by omega)
 have q1 := q.old (n' := n + 1) (by omega) O1
 simp only [fgr, hkr, gE]
 refine aJ f1 (f25 q1 z (by omega) f1) fun v3 h3 n3 hn3 f3 ⟨e3, ob3, o3⟩ => ?_
 subst e3
 simp only [gE]
 rw [cD gJ rfl]
 simp only [cel, gE]
 refine dM (v := .agg (bQ ((gS I z).getD eN))) gJ rfl (bV ob3) (eM _) f3 fun H4 r4 o4 f4 => ?_
 have OO : ∀ j, j < n + 1 → H4 j = H1 j := fun j hj => by rw [o4 j (by omega), o3 j hj]
 have O4 : Old h H4 n := fun j hj => by rw [OO j (by omega), O1 j hj]
 have q4 := q.old (n' := n3 + 1) (by omega) O4
 cases hi : gS I z with
 | none =>
  have hc : pB L I aO pn z = [] := by unfold pB; rw [hi]
  rw [hc]
  simp only [fgr, bor, Int.reduceEq, mH, gE]
  exact ⟨O4, .aV, rfl, [], .nil, Vs.nil _ _, fun j w => by cases w⟩
 | some i =>
  have hc : pB L I aO pn z = trV z (CZ L aO pn) := by unfold pB; rw [hi]
  rw [hc]
  obtain ⟨x, lv, rs, ix, il, sa, sb, sc⟩ := q4
  have r14 : Row H4 n (aX aO pn) := r1.aS (OO n (by omega))
  simp only [fgr, bor, mH, gE]
  refine cP ⟨rfl, ?_⟩
  simp only [tyr, aQ, Nat.reduceAdd, gE]
  rw [bJ (rs.one (off := 0) rfl oC rfl)]
  simp only [Nat.reduceAdd, gE]
  have hld : Rd (load env 28 (.ptr n 0)) H4 (n3 + 1) [n] (.agg (aX aO pn)) := Row.gT r14 j7 rfl (c9 hl)
  rw [bJ hld]
  simp only [hkr, Nat.reduceAdd, gE]
  refine eE f4 (aB8 aO pn hl ix.k hL f4) fun v5 h5 n5 rr5 ww5 hn5 f5 ⟨l5, o5⟩ => ?_
  simp only [fgr, builtin, Nat.reduceAdd, l5.len, gE]
  refine ⟨(by (try simp (disch := first | assumption | omega) only [dW, gF]); repeat' (first | rfl | exact (Bool.or_eq_true _ _).mpr (.inr rfl) | refine (Bool.and_eq_true _ _).mpr ⟨?_, ?_⟩)), ?_⟩
  have hlen : (CZ L aO pn).length ≤ 900000 := Nat.le_trans (List.length_filter_le _ _) hL
  refine V1 _ _ v5 (n3 + 1) n5 z (CZ L aO pn) h5 hlen l5 hn5 ?_ (CZ L aO pn).length 0 h5 n5 .aV [] _ _ _ _ _ _ _ _ (by omega) .nil (Vs.nil _ _) (fun j w => by cases w) (Nat.le_refl _) f5 (Old.refl _ _)
  intro h6 n6 acc cells x0 x1 x4 x9 x12 x20 x30 x36 l6 v6 i6 hn6 f6 o6
  simp only [fgr, gE]
  exact ⟨fun j hj => by rw [o6 j (by omega), o5 j (by omega), O4 j hj], acc, rfl, cells, l6, v6.mono (fun j w => ⟨by omega, w.2.1, w.2.2⟩) (fun j w => rfl), fun j w => ⟨by have := i6 j w; omega, l6.eT f6 w⟩⟩
def atH (z : Int) (v : Ver) : Ver := { v with made := z }
theorem E7 {w : Ver} {sv : a9} (h : w.aO.length = 32) (z : Int) : cH (aK w sv) 33 [.int .i64 z] = aK (atH z w) sv := by
 have e : aK w sv = aX w.aO w.pn ++ ([.int .i64 w.made] ++ ([.int .i64 w.value, sv, .bool w.eQ, .int .i64 w.cV] ++ w.by_.map u8)) := by simp [aK, nG]
 rw [e, rU (mid := [.int .i64 w.made]) (vs := [.int .i64 z]) (c9 h) rfl]
 simp [aK, nG, atH]
theorem wR {xs : List a9} {a : Nat} {y : a9} (h : a < xs.length) : cH xs a [y] = xs.set a y := by
 unfold cH
 rw [List.set_eq_take_append_cons_drop, if_pos h]
 simp
theorem VL.made {h : Hp} {n a b : Nat} {v : a9} {vs : List Ver} (l : VL h a b v vs) {i : Nat} (hi : i < vs.length) (z : Int) :
  ∃ rs ws h2, Wr (tT env 3 (dB (i * 70 + 33) v) (.int .i64 z)) h n rs ws undef h2 ∧ VL h2 a b v (vs.modify i (atH z)) ∧ ∀ j, bB v ≠ some j → h2 j = h j := by
 obtain ⟨cells, c1, c2, c3⟩ := l
 obtain ⟨id, cap, cs, rfl, hh, hl, hc, hx⟩ := c1.inv (by omega)
 have hw := Row.eZ (E := env) (n := n) (off := 0 + (i * 70 + 33)) (v := .int .i64 z) hh ti3 rfl (by show 0 + (i * 70 + 33) + 1 ≤ cs.length; omega) rfl
 have es : cH cs (0 + (i * 70 + 33)) (a9.int .i64 z).cells = cs.set (i * 70 + 33) (.int .i64 z) := by
  rw [Nat.zero_add]
  exact wR (by omega)
 rw [es] at hw
 have hcl : cells.length = vs.length * 70 := c1.rds.length
 refine ⟨_, _, _, hw, ⟨cells.set (i * 70 + 33) (.int .i64 z), ?_, ⟨by rw [List.length_set, List.length_modify]; exact hcl, fun j hj => ?_⟩, c3⟩, fun j q => aG _ _ (fun e => q (by rw [e]; rfl))⟩
 ·rw [List.length_modify]
  refine .sl id _ cap (cs.set (i * 70 + 33) (.int .i64 z)) _ (aP _ _ _) (by rw [List.length_set]; exact hl) (fun k q => by rw [List.length_set]; exact hc k q) ?_
  rw [List.take_set, hx]
 ·rw [List.length_modify] at hj
  obtain ⟨sv, e, bb, o, d⟩ := c2.at_ j hj
  rw [List.getElem_modify]
  have bb' : Bytes (upd h id (some (.row (.l (cs.set (i * 70 + 33) (.int .i64 z))) 31))) sv vs[j].aL := bb.aS fun k q => aG _ _ (fun e => (d k q).2.2 (by rw [e]; rfl))
  by_cases c : i = j
  ·subst c
   rw [if_pos rfl]
   refine ⟨sv, ?_, bb', ⟨o.h, o.b⟩, d⟩
   rw [List.drop_set, if_neg (by omega), List.take_set, e, show i * 70 + 33 - i * 70 = 33 by omega, ← wR (by rw [bD o.h o.b]; omega)]
   exact E7 o.h z
  ·rw [if_neg c]
   refine ⟨sv, ?_, bb', o, d⟩
   rw [← e]
   refine List.ext_getElem (by simp) fun k k1 k2 => ?_
   rw [List.getElem_take, List.getElem_take, List.getElem_drop, List.getElem_drop, List.getElem_set, if_neg]
   rw [List.length_take] at k1
   omega
theorem VL.aQ {h : Hp} {a b : Nat} {v : a9} {vs : List Ver} (l : VL h a b v vs) {i : Nat} (hi : i < vs.length) (k m : Nat) : Go.Am.aQ m (dB k v) = M.pure (dB (k + m) v) := by
 obtain ⟨cells, c1, c2, c3⟩ := l
 exact qS c1.rds (by omega) k m
theorem VL.wide {h : Hp} {a b c d : Nat} {v : a9} {vs : List Ver} (l : VL h a b v vs) (h1 : c ≤ a) (h2 : b ≤ d) : VL h c d v vs := by
 obtain ⟨cells, c1, c2, c3⟩ := l
 exact ⟨cells, c1, c2.mono (fun j q => ⟨by omega, by omega, q.2.2⟩) (fun j q => rfl), fun j q => by have := c3 j q; omega⟩
structure SA (t : Int) (v : Ver) : Prop where
 m0 : 0 ≤ v.made
 m : v.made ≤ t
 s : (v.cV = 0 ∧ v.by_ = z32) ∨ (0 < v.cV ∧ v.cV ≤ t ∧ v.made ≤ v.cV)
 v0 : 0 ≤ v.value
 v1 : v.value ≤ 2100000000000000
theorem SA.up {t u : Int} {v : Ver} (f : SA t v) (h : t ≤ u) : SA u v := ⟨f.m0, by have := f.m; omega, by rcases f.s with q | q; exact .inl q; exact .inr ⟨q.1, by omega, q.2.2⟩, f.v0, f.v1⟩
structure Inv (L : List Ver) (t : Int) : Prop where
 r : eU false L
 f : ∀ v ∈ L, SA t v
 o : ∀ a ∈ L, ∀ b ∈ L, a.aO = b.aO → a.pn = b.pn → a.made < b.made → 0 < a.cV ∧ a.cV ≤ b.made
theorem Inv.none : Inv [] (-1) := ⟨List.Pairwise.nil, (fun v hv => nomatch hv), (fun v hv => nomatch hv)⟩
structure Mid (L0 : List Ver) (t : Int) (L : List Ver) : Prop where
 r : eU false L
 e : ∀ v ∈ L, v ∈ L0 ∨ (v.made = t + 1 ∧ v.cV = 0 ∧ v.by_ = z32 ∧ 0 ≤ v.value ∧ v.value ≤ 2100000000000000 ∧ atV L0 v.aO v.pn t = .none)
theorem S6 {L : List Ver} {v a : Ver} {z : Int} (h : atV L v.aO v.pn z = none) (ha : a ∈ L) (h1 : a.aO = v.aO) (h2 : a.pn = v.pn) : gB a z = false := by
 cases c : gB a z with
 | false => rfl
 | true =>
  have := S5 ha c
  rw [h1, h2, h] at this
  cases this
theorem Mid.inv {L0 L : List Ver} {t : Int} (m : Mid L0 t L) (i : Inv L0 t) (ht : -1 ≤ t) : Inv L (t + 1) := by
 refine ⟨m.r, fun v hv => ?_, fun a ha b hb h1 h2 h3 => ?_⟩
 ·rcases m.e v hv with q | ⟨q1, q2, q3, q4, q5, q6⟩
  ·exact (i.f v q).up (by omega)
  ·exact ⟨by omega, by omega, .inl ⟨q2, q3⟩, q4, q5⟩
 ·rcases m.e b hb with q | ⟨q1, q2, q3, q4, q5, q6⟩
  ·rcases m.e a ha with p | ⟨p1, p2⟩
   ·exact i.o a p b q h1 h2 h3
   ·have := (i.f b q).m
    omega
  ·rcases m.e a ha with p | ⟨p1, p2⟩
   ·have e := S6 q6 p h1 h2
    have f := i.f a p
    have := f.m
    unfold gB at e
    rw [Bool.and_eq_false_iff, Bool.or_eq_false_iff, decide_eq_false_iff_not, decide_eq_false_iff_not, decide_eq_false_iff_not] at e
    rcases f.s with s | s <;> omega
   ·omega
def Lev (I : List Inf) : Prop := ∀ (k : Nat) (hk : k < I.length), I[k].bR = ((k : Nat) : Int)
theorem Lev.none : Lev [] := fun k hk => by simp at hk
theorem Lev.take {I : List Inf} (l : Lev I) (n : Nat) : Lev (I.take n) := fun k hk => by
 rw [List.getElem_take]
 exact l k _
def XO : List Ver → Int
 | [] => 0
 | v :: l => v.value + XO l
def atS (k : Int) (L : List Ver) : Int := XO (L.filter fun v => gB v k)
def Tot (L : List Ver) (I : List Inf) : Prop := ∀ (k : Nat) (hk : k < I.length), I[k].jI = atS ((k : Nat) : Int) L ∧ I[k].jI ≤ 2100000000000000
structure Sto (L : List Ver) (I : List Inf) (k : Nat) : Prop where
 i : Inv L (((I.length : Nat) : Int) - 1)
 l : Lev I
 n : L.length ≤ 20 * k
 m : I.length ≤ k
 t : Tot L I
theorem Sto.none : Sto [] [] 0 := ⟨Inv.none, Lev.none, Nat.le_refl _, Nat.le_refl _, fun k hk => by simp at hk⟩
theorem Sto.up {L : List Ver} {I : List Inf} {k j : Nat} (s : Sto L I k) (h : k ≤ j) : Sto L I j := ⟨s.i, s.l, by have := s.n; omega, by have := s.m; omega, s.t⟩
def hb_ (x : UInt8) : List UInt8 := x :: List.replicate 31 0
def nw (pn made value : Int) (s : List UInt8) : Ver := ⟨z0, pn, made, value, s, false, 0, z0⟩
theorem vB (pn made value : Int) (s : List UInt8) : (nw pn made value s).Ok := ⟨rfl, rfl⟩
theorem f16 (k : Int) (h : Hp) (n : Nat) (hf : bG h n) : Wp (bM env (aY env) 16 [.int .u32 k]) h n fun v' h' n' => v' = .agg (aX z0 k) ∧ Old h h' n := by
 have b28 : build env 28 [(1, .int .u32 k)] = M.pure (.agg (aX z0 k)) := rfl
 refine aZ aB0 aq8 ?_
 simp only [WN, Try.f16, Option.getD_some, List.replicate, Nat.reduceSub, gE]
 rw [cD j7 rfl]
 obtain ⟨H1, hH1⟩ : ∃ H1, H1 = upd h n (some (.row (.l HT.i.zero.cells) 28)) := ⟨_, rfl⟩
 have g1 : H1 n = some (.row (.l HT.i.zero.cells) 28) := by rw [hH1, aP]
 have o1 : ∀ j, j ≠ n → H1 j = h j := fun j hj => by rw [hH1, aG _ _ hj]
 show Ops _ _ _ _ _ _ _ _ (upd h n (some (.row (.l HT.i.zero.cells) 28))) _
 rw [← hH1]
 clear hH1
 simp only [fgr, b28, gE]
 rw [eS (Row.eZ (off := 0) (v := .agg (aX z0 k)) g1 j7 (c9 rfl) (by decide) (rW _ _))]
 rw [eL (by rfl)]
 simp only [bP, fgr, bX, nth, aE, cel, true_and]
 refine fL (Row.gT (cs := aX z0 k) ⟨28, aP _ _ _⟩ j7 rfl (c9 rfl)) (aM.2 ?_)
 exact ⟨rfl, fun j hj => by rw [aG _ _ (by omega), o1 j (by omega)]⟩
theorem uC {h : Hp} {a b id cnt : Nat} {vs : List Ver} {cells : List a9} (hh : h id = some (.row (.l cells) 31)) (hl : vs.length = cnt) (v : Vs h (fun j => a ≤ j ∧ j < b ∧ j ≠ id) cells vs) (h1 : a ≤ id) (h2 : id < b) : VL h a b (.sl id 0 cnt (some cnt) 70) vs := by
 subst hl
 have e := v.len
 exact ⟨cells, .sl id _ (some vs.length) cells cells hh (by omega) (fun k q => by injection q with q; omega) (by rw [List.take_of_length_le (by omega)]), v.mono (fun j q => ⟨q.1, q.2.1, fun w => by injection w with w; exact q.2.2 w.symm⟩) (fun j q => rfl), fun j q => by injection q with q; omega⟩
theorem AV {h : Hp} {a b id cnt : Nat} {ss : List Spd} {cells : List a9} (hh : h id = some (.row (.l cells) 48)) (hl : ss.length = cnt) (he : cells.length = cnt * 65) (hs : ∀ (j : Nat) (hj : j < ss.length), (cells.drop (j * 65)).take 65 = gD ss[j] ∧ ss[j].Ok) (h1 : a ≤ id) (h2 : id < b) : SL h a b (.sl id 0 cnt (some cnt) 65) ss := by
 subst hl
 exact ⟨cells, .sl id _ (some ss.length) cells cells hh (by omega) (fun k q => by injection q with q; omega) (by rw [List.take_of_length_le (by omega)]), hs, fun j q => by injection q with q; omega⟩
theorem qM {h : Hp} {a b : Nat} : SL h a b .aV [] := ⟨[], .nil, fun j hj => by simp at hj, fun j q => by cases q⟩
theorem wB {h : Hp} {a b : Nat} : VL h a b .aV [] := ⟨[], .nil, Vs.nil _ _, fun j q => by cases q⟩
def X6 : App := ⟨0, hb_ 1, [nw 1 0 50 [115]], [], 0, 0⟩
def NO : App := ⟨1, hb_ 2, [nw 2 1 30 [115], nw 3 1 20 [116]], [⟨z0, 1, hb_ 9⟩], 3, 4⟩
def xU : Inf := ⟨0, hb_ 1, 1, 50, 0, 0⟩
def sG : Inf := ⟨1, hb_ 2, 2, 50, 3, 4⟩
def nT : List Ver := [iU (nw 1 0 50 [115]) 1 (hb_ 9), nw 2 1 30 [115], nw 3 1 20 [116]]
theorem aD1 : fJ [] [] X6 = some ([nw 1 0 50 [115]], [xU]) := by kernel_rfl
theorem aD0 : fJ [nw 1 0 50 [115]] [xU] NO = some (nT, [xU, sG]) := by kernel_rfl
theorem SY : build env 25 [(0, .int .u8 1)] = M.pure (.agg ((hb_ 1).map u8)) := rfl
theorem SX : build env 25 [(0, .int .u8 2)] = M.pure (.agg ((hb_ 2).map u8)) := rfl
theorem SW : build env 25 [(0, .int .u8 9)] = M.pure (.agg ((hb_ 9).map u8)) := rfl
theorem aE7 (n : Nat) (k value : Int) (s : List UInt8) : build env 31 [(0, .agg (aX z0 k)), (2, .int .i64 value), (3, .sl n 0 1 (some 1) 1)] = M.pure (.agg (aK (nw k 0 value s) (.sl n 0 1 (some 1) 1))) := rfl
theorem ai1 (n : Nat) (k made value : Int) (s : List UInt8) : build env 31 [(0, .agg (aX z0 k)), (1, .int .i64 made), (2, .int .i64 value), (3, .sl n 0 1 (some 1) 1)] = M.pure (.agg (aK (nw k made value s) (.sl n 0 1 (some 1) 1))) := rfl
theorem aE4 (b : UInt8) (n : Nat) : build env 46 [(1, .agg ((hb_ b).map u8)), (2, .sl n 0 1 (some 1) 70)] = M.pure (.agg (cX ⟨0, hb_ b, [], [], 0, 0⟩ (.sl n 0 1 (some 1) 70) .aV)) := rfl
theorem OE {X Y : List a9} (hX : X.length = 70) (hY : Y.length = 70) : buildSlice env 43 2 [(0, .agg X), (1, .agg Y)] = (newRow env 31 (X ++ Y)).bind fun id => M.pure (.sl id 0 2 (some 2) 70) := by
 have e1 : fill (fun k => some (k * 70, 70)) (fS fX.i.zero.cells 2) [(0, .agg X), (1, .agg Y)] = some (X ++ Y) := by
  have : fS fX.i.zero.cells 2 = [] ++ fX.i.zero.cells ++ fX.i.zero.cells := rfl
  rw [this, iK (off := 0) (sz := 70) (pre := []) (mid := fX.i.zero.cells) (post := fX.i.zero.cells) (v := .agg X) (bH := [(1, .agg Y)]) rfl rfl rfl hX rfl]
  have e : ([] ++ (a9.agg X).cells ++ fX.i.zero.cells) = X ++ fX.i.zero.cells ++ [] := by simp [a9.cells]
  rw [e, iK (off := 70) (sz := 70) (pre := X) (mid := fX.i.zero.cells) (post := []) (v := .agg Y) (bH := []) rfl hX rfl hY rfl]
  simp [fill, a9.cells]
 have e2 : buildSlice env 43 2 [(0, .agg X), (1, .agg Y)] = (dG "buildSlice" (fill (fun k => some (k * 70, 70)) (fS fX.i.zero.cells 2) [(0, .agg X), (1, .agg Y)])).bind fun cs => (newRow env 31 cs).bind fun id => M.pure (.sl id 0 2 (some 2) 70) := rfl
 rw [e2, e1]
 rfl
theorem RU {X : List a9} (hX : X.length = 65) : buildSlice env 44 1 [(0, .agg X)] = (newRow env 48 X).bind fun id => M.pure (.sl id 0 1 (some 1) 65) := by
 have e1 : fill (fun k => some (k * 65, 65)) (fS C7.i.zero.cells 1) [(0, .agg X)] = some X := by
  have : fS C7.i.zero.cells 1 = [] ++ C7.i.zero.cells ++ [] := rfl
  rw [this, iK (off := 0) (sz := 65) (pre := []) (mid := C7.i.zero.cells) (post := []) (v := .agg X) (bH := []) rfl rfl rfl hX rfl]
  simp [fill, a9.cells]
 have e2 : buildSlice env 44 1 [(0, .agg X)] = (dG "buildSlice" (fill (fun k => some (k * 65, 65)) (fS C7.i.zero.cells 1) [(0, .agg X)])).bind fun cs => (newRow env 48 cs).bind fun id => M.pure (.sl id 0 1 (some 1) 65) := rfl
 rw [e2, e1]
 rfl
theorem ah5 (k : Int) (b : UInt8) : build env 48 [(0, .agg (aX z0 k)), (1, .agg ((hb_ b).map u8))] = M.pure (.agg (gD ⟨z0, k, hb_ b⟩)) := rfl
theorem aE3 (b : UInt8) (n m : Nat) (bR fU left : Int) : build env 46 [(0, .int .i64 bR), (1, .agg ((hb_ b).map u8)), (4, .int .i64 fU), (5, .int .i64 left), (2, .sl n 0 2 (some 2) 70), (3, .sl m 0 1 (some 1) 65)] = M.pure (.agg (cX ⟨bR, hb_ b, [], [], fU, left⟩ (.sl n 0 2 (some 2) 70) (.sl m 0 1 (some 1) 65))) := rfl
theorem f14 (W : Nat → Prop) (h : Hp) (n : Nat) (hf : bG h n) (hw : ∀ j, W j → j < n) : Wp (bM env (aY env) 14 []) h n fun v' h' n' => ∃ s, v' = .ptr s 0 ∧ n ≤ s ∧ St (fun j => W j ∨ j = s) h' n' s nT [xU, sG] ∧ Old h h' n := by
 refine aZ aB2 ar0 ?_
 simp only [WQ, Try.f14, Option.getD_some, List.replicate, fgr, hkr, Nat.reduceSub, gE]
 refine aJ hf (f26 W h n hf hw) fun v1 h1 n1 hn1 f1 ⟨s, e1, hx, s1, o1⟩ => ?_
 subst e1
 have sn := s1.sn
 simp only [fgr, hkr, SY, gE]
 refine aJ f1 (f16 1 h1 n1 f1) fun v2 h2 n2 hn2 f2 ⟨e2, o2⟩ => ?_
 subst e2
 simp only [tyr, cel, Nat.beq, buildSlice, fS, fill, List.take_zero, List.drop_succ_cons, List.drop_zero, Nat.ble, Nat.one_mul, gE]
 refine fD ti5 f2 (f := fun id => a9.sl id 0 1 (some 1) 1) fun H3 r3 o3 f3 => ?_
 have bb3 : Bytes H3 (.sl n2 0 1 (some 1) 1) [115] := Bytes.vE (l := [115]) r3
 simp only [tyr, lenOf, cT, Nat.beq, reduceCtorEq, Option.some.injEq, exists_eq_left', ne_eq, convert, gP, oG, r3, iX r3, uW, show (Nat.blt 0 1) = true from rfl, aE7 _ _ _ [115], DY (bD (v := nw 1 0 50 [115]) rfl rfl), gE]
 refine fD eB f3 (f := fun id => a9.sl id 0 1 (some 1) 70) fun H4 r4 o4 f4 => ?_
 simp only [hkr, aE4, gE]
 have bb4 := bb3.aS (h' := H4) fun j q => o4 j (by injection q with q; omega)
 have v4 : VL H4 n1 (n2 + 1 + 1) (.sl (n2 + 1) 0 1 (some 1) 70) [nw 1 0 50 [115]] := uC r4 rfl ((Vs.nil H4 _).vN bb4 (vB _ _ _ _) fun i q => by injection q with q; omega) (by omega) (by omega)
 have a4 : j6 H4 n1 (n2 + 1 + 1) X6 (.sl (n2 + 1) 0 1 (some 1) 70) .aV := ⟨v4, qM, rfl, by decide, by decide⟩
 have s4 := s1.old (n' := n2 + 1 + 1) (by omega) (h' := H4) fun j hj => by rw [o4 j (by omega), o3 j (by omega), o2 j hj]
 have nW : ∀ j, n1 ≤ j → ¬ (W j ∨ j = s) := fun j q w => by
  rcases w with w | w
  ·have := hw j w; omega
  ·omega
 refine aJ f4 (f19 s4 X6 _ _ n1 (n2 + 1 + 1) a4 (Nat.le_refl _) (fun j q1 q2 => nW j q1) (by decide) (by decide) (by decide) f4) fun v5 h5 n5 hn5 f5 ⟨e5, o5, s5⟩ => ?_
 rw [aD1] at e5 s5
 subst e5
 simp only [Option.getD_some] at s5
 have oo5 : ∀ j, j < n → h5 j = h j := fun j hj => by rw [o5 j (by omega) (by omega), o4 j (by omega), o3 j (by omega), o2 j (by omega), o1 j hj]
 simp only [fgr, mR, gE]
 simp only [hkr, SX, gE]
 refine aJ f5 (f16 2 h5 n5 f5) fun v6 h6 n6 hn6 f6 ⟨e6, o6⟩ => ?_
 subst e6
 simp only [tyr, cel, Nat.beq, buildSlice, fS, fill, List.take_zero, List.drop_succ_cons, List.drop_zero, Nat.ble, Nat.one_mul, gE]
 refine fD ti5 f6 (f := fun id => a9.sl id 0 1 (some 1) 1) fun H7 r7 o7 f7 => ?_
 have bb7 : Bytes H7 (.sl n6 0 1 (some 1) 1) [115] := Bytes.vE (l := [115]) r7
 simp only [tyr, hkr, lenOf, cT, Nat.beq, reduceCtorEq, Option.some.injEq, exists_eq_left', ne_eq, convert, gP, oG, r7, iX r7, uW, show (Nat.blt 0 1) = true from rfl, ai1 _ _ _ _ [115], gE]
 refine aJ f7 (f16 3 H7 _ f7) fun v8 h8 n8 hn8 f8 ⟨e8, o8⟩ => ?_
 subst e8
 have bb8 := bb7.aS (h' := h8) fun j q => o8 j (by injection q with q; omega)
 simp only [tyr, cel, Nat.beq, buildSlice, fS, fill, List.take_zero, List.drop_succ_cons, List.drop_zero, Nat.ble, Nat.one_mul, gE]
 refine fD ti5 f8 (f := fun id => a9.sl id 0 1 (some 1) 1) fun H9 r9 o9 f9 => ?_
 have bb9 : Bytes H9 (.sl n8 0 1 (some 1) 1) [116] := Bytes.vE (l := [116]) r9
 have bc9 := bb8.aS (h' := H9) fun j q => o9 j (by injection q with q; omega)
 simp only [tyr, lenOf, cT, Nat.beq, reduceCtorEq, Option.some.injEq, exists_eq_left', ne_eq, convert, gP, oG, r9, iX r9, uW, show (Nat.blt 0 1) = true from rfl, ai1 _ _ _ _ [116], OE (bD (v := nw 2 1 30 [115]) rfl rfl) (bD (v := nw 3 1 20 [116]) rfl rfl), gE]
 refine fD eB f9 (f := fun id => a9.sl id 0 2 (some 2) 70) fun H10 r10 o10 f10 => ?_
 have bb10 := bb9.aS (h' := H10) fun j q => o10 j (by injection q with q; omega)
 have bc10 := bc9.aS (h' := H10) fun j q => o10 j (by injection q with q; omega)
 simp only [hkr, gE]
 refine aJ f10 (f16 1 H10 _ f10) fun v11 h11 n11 hn11 f11 ⟨e11, o11⟩ => ?_
 subst e11
 simp only [SW, ah5, RU (iY (s := ⟨z0, 1, hb_ 9⟩) ⟨rfl, rfl⟩), gE]
 refine fD vL f11 (f := fun id => a9.sl id 0 1 (some 1) 65) fun H12 r12 o12 f12 => ?_
 simp only [hkr, aE3, gE]
 have t12 : ∀ j, j < n8 + 1 + 1 → H12 j = H10 j := fun j hj => by rw [o12 j (by omega), o11 j (by omega)]
 have bb12 := bb10.aS (h' := H12) fun j q => t12 j (by injection q with q; omega)
 have bc12 := bc10.aS (h' := H12) fun j q => t12 j (by injection q with q; omega)
 have r12' : H12 (n8 + 1) = some (.row (.l (aK (nw 2 1 30 [115]) (.sl n6 0 1 (some 1) 1) ++ aK (nw 3 1 20 [116]) (.sl n8 0 1 (some 1) 1))) 31) := (t12 _ (by omega)).trans r10
 have v12 : VL H12 n5 (n11 + 1) (.sl (n8 + 1) 0 2 (some 2) 70) NO.made := uC r12' rfl (((Vs.nil H12 _).vN bc12 (vB 2 1 30 _) fun i q => by injection q with q; omega).vN bb12 (vB 3 1 20 _) fun i q => by injection q with q; omega) (by omega) (by omega)
 have a12 : j6 H12 n5 (n11 + 1) NO (.sl (n8 + 1) 0 2 (some 2) 70) (.sl n11 0 1 (some 1) 65) := ⟨v12, AV r12 rfl rfl (fun j hj => by
  have : j = 0 := by have : NO.cG.length = 1 := rfl; omega
  subst this
  exact ⟨rfl, rfl, rfl⟩) (by omega) (by omega), rfl, by decide, by decide⟩
 have x12 : ∀ j, j < n5 → H12 j = h5 j := fun j hj => by rw [t12 j (by omega), o10 j (by omega), o9 j (by omega), o8 j (by omega), o7 j (by omega), o6 j hj]
 have s12 := s5.old (n' := n11 + 1) (by omega) (h' := H12) x12
 refine aJ f12 (f19 s12 NO _ _ n5 (n11 + 1) a12 (Nat.le_refl _) (fun j q1 q2 => nW j (by omega)) (by decide) (by decide) (by decide) f12) fun v13 h13 n13 hn13 f13 ⟨e13, o13, s13⟩ => ?_
 rw [aD0] at e13 s13
 subst e13
 simp only [Option.getD_some] at s13
 simp only [fgr, bor, aT, mR, gE]
 refine ⟨s, rfl, hx, s13, fun j hj => by rw [o13 j (by omega) (by omega), x12 j (by omega), oo5 j hj]⟩
def eqI (a b : Inf) : Bool := (a.bR == b.bR) && (decide (a.block = b.block) && ((a.jV == b.jV) && ((a.jI == b.jI) && ((a.fU == b.fU) && (a.left == b.left)))))
theorem NS (a : Inf) : eqI a a = true := by simp [eqI]
theorem A4 {i : Inf} (hb : i.block.length = 32) : part env 25 (bQ i) 1 = M.pure (.agg (i.block.map u8)) := by
 simp only [part, kH, aB, dT]
 rw [show ((bQ i).drop 1).take 32 = i.block.map u8 by unfold bQ; rw [List.drop_succ_cons, List.drop_zero, List.take_append_of_le_length (by simp [hb]), List.take_of_length_le (by simp [hb])]]
theorem aD3 (d : Nat) (a b : Inf) (ha : a.block.length = 32) (hb : b.block.length = 32) : equal env (d + 1 + 1 + 1) 61 (.agg (bQ a)) (.agg (bQ b)) = M.pure (eqI a b) := by
 have hq : zK env env.eqs 61 = true := rfl
 have p0 : ∀ (i : Inf), part env 3 (bQ i) 0 = M.pure (.int .i64 i.bR) := fun i => rfl
 have pk : ∀ (i : Inf) (k : Nat) (v : a9) (t : TypeId) (tt : ti env t = M.pure ty2.i ∨ ti env t = M.pure ty3.i), i.block.length = 32 → [a9.int .i64 i.jV, .int .i64 i.jI, .int .i64 i.fU, .int .i64 i.left][k]? = some v → part env t (bQ i) (33 + k) = M.pure v := fun i k v t tt hl e => by
  rcases tt with tt | tt <;> simp only [part, tt, aB, show dT ty2.i.desc = false from rfl, show dT ty3.i.desc = false from rfl, mI hl k, e, dG]
 have q3 : ∀ x y, equal env (d + 1 + 1) 3 (.int .i64 x) (.int .i64 y) = M.pure (x == y) := fun x y => by
  simp only [equal, und, ti3, aB, decide_true]
 have q2 : ∀ x y, equal env (d + 1 + 1) 2 (.int .i64 x) (.int .i64 y) = M.pure (x == y) := fun x y => by
  simp only [equal, und, ti2, aB, decide_true]
 rw [equal]
 ·simp only [und, gJ, aB, hq, dE]
  simp only [vX, show decide ("Height" = "_") = false from rfl, show decide ("Block" = "_") = false from rfl, show decide ("Coins" = "_") = false from rfl, show decide ("Total" = "_") = false from rfl, show decide ("Burnt" = "_") = false from rfl, show decide ("Left" = "_") = false from rfl, p0, A4 ha, A4 hb, aB, J7 d a.block b.block ha hb, pk a 0 _ 3 (.inr ti3) ha rfl, pk b 0 _ 3 (.inr ti3) hb rfl, pk a 1 _ 2 (.inl ti2) ha rfl, pk b 1 _ 2 (.inl ti2) hb rfl, pk a 2 _ 2 (.inl ti2) ha rfl, pk b 2 _ 2 (.inl ti2) hb rfl, pk a 3 _ 2 (.inl ti2) ha rfl, pk b 3 _ 2 (.inl ti2) hb rfl, q2, q3, Bool.and_true]
  rfl
 all_goals (intro k n h; cases h)
theorem ag3 (a b : Inf) (ha : a.block.length = 32) (hb : b.block.length = 32) : aR env .eql 61 (.agg (bQ a)) (.agg (bQ b)) = M.pure (.bool (eqI a b)) := by
 have e := aD3 97 a b ha hb
 unfold aR
 simp only
 unfold aU
 rw [e, aB]
theorem ag1 : FW nT [xU, sG] [115] 0 = 50 := by kernel_rfl
theorem ag0 : FW nT [xU, sG] [115] 1 = 30 := by kernel_rfl
theorem af9 : mH (gS [xU, sG] 0) = 0 := by kernel_rfl
theorem SQ : mH (gS [xU, sG] 1) = 0 := by kernel_rfl
theorem af8 : (gS [xU, sG] 1).getD eN = sG := by kernel_rfl
theorem aD7 (bR jV jI fU left : Int) (b : UInt8) : build env 61 [(0, .int .i64 bR), (1, .agg ((hb_ b).map u8)), (2, .int .i64 jV), (3, .int .i64 jI), (4, .int .i64 fU), (5, .int .i64 left)] = M.pure (.agg (bQ ⟨bR, hb_ b, jV, jI, fU, left⟩)) := rfl
theorem f27 (h : Hp) (n : Nat) (hf : bG h n) : Wp (bM env (aY env) 27 []) h n fun v' h' n' => v' = .bool true ∧ Old h h' n := by
 refine aZ aA5 aq3 ?_
 simp only [WI, Try.f27, Option.getD_some, List.replicate, fgr, hkr, Nat.reduceSub, gE]
 refine aJ hf (f14 (fun _ => False) h n hf (fun j w => w.elim)) fun v1 h1 n1 hn1 f1 ⟨s, e1, hx, s1, o1⟩ => ?_
 subst e1
 simp only [tyr, fgr, cel, Nat.beq, buildSlice, fS, fill, List.take_zero, List.drop_succ_cons, List.drop_zero, Nat.ble, Nat.one_mul, gE]
 refine fD ti5 f1 (f := fun id => a9.sl id 0 1 (some 1) 1) fun H2 r2 o2 f2 => ?_
 have bb2 : Bytes H2 (.sl n1 0 1 (some 1) 1) [115] := Bytes.vE (l := [115]) r2
 have s2 := s1.old (n' := n1 + 1) (by omega) (h' := H2) fun j hj => o2 j (by omega)
 simp only [tyr, hkr, lenOf, cT, Nat.beq, reduceCtorEq, Option.some.injEq, exists_eq_left', ne_eq, convert, gP, oG, r2, iX r2, uW, show (Nat.blt 0 1) = true from rfl, gE]
 refine aJ f2 (f60 s2 _ [115] 0 bb2 (fun j q => by injection q with q; omega) (by decide) (by decide) f2) fun v3 h3 n3 hn3 f3 ⟨e3, o3⟩ => ?_
 subst e3
 have s3 := s2.old hn3 o3
 simp only [tyr, fgr, cel, Nat.beq, buildSlice, fS, fill, List.take_zero, List.drop_succ_cons, List.drop_zero, Nat.ble, Nat.one_mul, ag1, af9, gE]
 refine fD ti5 f3 (f := fun id => a9.sl id 0 1 (some 1) 1) fun H4 r4 o4 f4 => ?_
 have bb4 : Bytes H4 (.sl n3 0 1 (some 1) 1) [115] := Bytes.vE (l := [115]) r4
 have s4 := s3.old (n' := n3 + 1) (by omega) (h' := H4) fun j hj => o4 j (by omega)
 simp only [tyr, hkr, lenOf, cT, Nat.beq, reduceCtorEq, Option.some.injEq, exists_eq_left', ne_eq, convert, gP, oG, r4, iX r4, uW, show (Nat.blt 0 1) = true from rfl, gE]
 refine aJ f4 (f60 s4 _ [115] 1 bb4 (fun j q => by injection q with q; omega) (by decide) (by decide) f4) fun v5 h5 n5 hn5 f5 ⟨e5, o5⟩ => ?_
 subst e5
 have s5 := s4.old hn5 o5
 simp only [fgr, hkr, ag0, SQ, gE]
 refine aJ f5 (f25 s5 1 (by decide) f5) fun v6 h6 n6 hn6 f6 ⟨e6, ob6, o6⟩ => ?_
 subst e6
 simp only [af8, SQ, gE]
 rw [cD gJ rfl]
 simp only [cel, gE]
 refine dM (v := .agg (bQ sG)) gJ rfl rfl (eM _) f6 fun H7 r7 p7 f7 => ?_
 replace r7 : Row H7 n6 (bQ sG) := r7
 simp only [fgr, bor, aT, gE]
 rw [aI (r7.gT gJ rfl rfl)]
 simp only [fgr, bor, aT, SX, aD7, ag3 sG ⟨1, hb_ 2, 2, 50, 3, 4⟩ rfl rfl, show eqI sG ⟨1, hb_ 2, 2, 50, 3, 4⟩ = true from NS sG, gE]
 exact fun j hj => by rw [p7 j (by omega), o6 j (by omega), o5 j (by omega), o4 j (by omega), o3 j (by omega), o2 j (by omega), o1 j hj]
structure Above (L : List Ver) (I : List Inf) (L' : List Ver) (I' : List Inf) : Prop where
 c : oR (((I.length : Nat) : Int) - 1) L' = L
 n : I.length ≤ I'.length
 p : I'.take I.length = I
abbrev Sc := Ins.Sc
def ev (e : Sc) : a9 × a9 := (.str e.1, .int .i64 e.2)
def isS (s : List UInt8) : a9 → Bool
 | .str b => s == b
 | _ => false
theorem HS : und env 115 = M.pure (.map 9 2) := rfl
theorem z2o : cE env 2 = M.pure (.int .i64 0) := rfl
theorem GO (s : List UInt8) : jE env 100 9 (.str s) = M.pure () := rfl
theorem NR (s b : List UInt8) : aU env 9 (.str s) (.str b) = M.pure (isS s (.str b)) := rfl
theorem KQ {s b : List UInt8} (h : isS s (.str b) = true) : jW (.str b) (.str s) = true := by
 have : s = b := by unfold isS at h; simpa using h
 subst this
 simp [jW, pI]
theorem evs (s : List UInt8) (m : List Sc) : ∀ e ∈ m.map ev, aU env 9 (.str s) e.1 = M.pure (isS s e.1) := fun e he => by
 obtain ⟨x, hx, rfl⟩ := List.mem_map.1 he
 exact NR s x.1
def jH (s : List UInt8) (v : Int) : List Sc → List Sc
 | [] => [(s, v)]
 | e :: m => if s = e.1 then (e.1, e.2 + v) :: m else e :: jH s v m
def jF (s : List UInt8) : List Sc → Int
 | [] => 0
 | e :: m => if s = e.1 then e.2 else jF s m
theorem yS {s : List UInt8} {v : Int} : ∀ {m : List Sc} {i : Nat}, eG (isS s) (m.map ev) i = none → jH s v m = m ++ [(s, v)] ∧ jF s m = 0
 | [], i, _ => ⟨rfl, rfl⟩
 | e :: m, i, h => by
  simp only [List.map_cons, eG] at h
  split at h
  ·cases h
  ·rename_i c
   have hn : ¬ s = e.1 := fun q => c (by simp [ev, isS, q])
   obtain ⟨a, b⟩ := yS (v := v) h
   simp only [jH, jF, if_neg hn, a, b, List.cons_append, and_self]
theorem yR {s : List UInt8} {v : Int} : ∀ {m : List Sc} {i j : Nat} {x : a9}, eG (isS s) (m.map ev) i = some (j, x) → ∃ q, j = i + q ∧ q < m.length ∧ m[q]? = some (s, jF s m) ∧ x = .int .i64 (jF s m) ∧ jH s v m = m.modify q fun e => (e.1, e.2 + v)
 | [], i, j, x, h => by cases h
 | e :: m, i, j, x, h => by
  simp only [List.map_cons, eG] at h
  split at h
  ·rename_i c
   have hn : s = e.1 := by simpa [ev, isS] using c
   injection h with h; injection h with h1 h2
   subst h1; subst h2
   refine ⟨0, rfl, by simp, ?_, ?_, ?_⟩
   ·simp [jF, hn]
   ·simp [jF, hn, ev]
   ·simp [jH, hn]
  ·rename_i c
   have hn : ¬ s = e.1 := fun q => c (by simp [ev, isS, q])
   obtain ⟨q, h1, h2, h3, h4, h5⟩ := yR (v := v) h
   refine ⟨q + 1, by omega, by simpa using h2, ?_, ?_, ?_⟩
   ·simp only [List.getElem?_cons_succ, jF, if_neg hn, h3]
   ·simp only [jF, if_neg hn, h4]
   ·simp only [jH, if_neg hn, h5, List.modify_succ_cons]
theorem QH {h : Hp} {n id b : Nat} {m : List Sc} (hm : fR h id b (m.map ev)) (s : List UInt8) : Rd (j9 env 115 (.map id) (.str s) false) h n [id] (.int .i64 (jF s m)) := by
 have L := hm.lookup (n := n) HS (GO s) (evs s m) z2o
 cases hi : eG (isS s) (m.map ev) 0 with
 | none =>
  rw [hi] at L
  rw [(yS (v := 0) hi).2]
  exact L
 | some y =>
  obtain ⟨j, x⟩ := y
  rw [hi] at L
  obtain ⟨q, _, _, _, h4, _⟩ := yR (v := 0) hi
  rw [← h4]
  exact L
theorem kX {h : Hp} {n id b : Nat} {m : List Sc} (hm : fR h id b (m.map ev)) (s : List UInt8) (v : Int) :
  ∃ h2, Wr (kR env 115 (.map id) (.str s) (.int .i64 (jF s m + v))) h n [id] [id] undef h2 ∧ fR h2 id b ((jH s v m).map ev) ∧ ∀ j, j ≠ id → h2 j = h j := by
 cases hi : eG (isS s) (m.map ev) 0 with
 | none =>
  obtain ⟨e1, e2⟩ := yS (v := v) hi
  refine ⟨Go.Am.upd h id (some (.map (gG b (m.map ev) ++ [(.str s, .int .i64 (jF s m + v), b + (m.map ev).length)]) (b + (m.map ev).length + 1))), ?_, ?_, fun j hj => aG _ _ hj⟩
  ·show Wr _ h n ([] ++ [id]) [id] undef _
   simp only [kR, HS, aB]
   refine Wr.bind (Rd.get hm) ?_
   simp only [lK, GO, aB, lU _ b 0 (evs s m), hi]
   exact (Wr.set hm).ret
  ·unfold fR
   rw [aP, e1, e2, List.map_append, xY, List.length_append, Int.zero_add]
   rfl
 | some y =>
  obtain ⟨j, x⟩ := y
  obtain ⟨q, h1, h2, h3, h4, h5⟩ := yR (v := v) hi
  rw [Nat.zero_add] at h1
  subst h1
  have hg : (m.map ev)[j]? = some (.str s, .int .i64 (jF s m)) := by rw [List.getElem?_map, h3]; rfl
  refine ⟨Go.Am.upd h id (some (.map (pG (gG b (m.map ev)) j (.int .i64 (jF s m + v))) (b + (m.map ev).length))), ?_, ?_, fun j hj => aG _ _ hj⟩
  ·show Wr _ h n ([] ++ [id]) [id] undef _
   simp only [kR, HS, aB]
   refine Wr.bind (Rd.get hm) ?_
   have hsk : jW (.str s) (.str s) = true := KQ (by simp [isS])
   simp only [lK, GO, aB, lU _ b 0 (evs s m), hi, xX, hg, Option.map_some, dG, hsk]
   exact (Wr.set hm).ret
  ·unfold fR
   rw [aP, xW, h5]
   have : (m.modify j fun e => (e.1, e.2 + v)).map ev = (m.map ev).modify j fun e => (e.1, .int .i64 (jF s m + v)) := by
    refine List.ext_getElem? fun k => ?_
    rw [List.getElem?_map, List.getElem?_modify, List.getElem?_modify, List.getElem?_map]
    by_cases c : j = k
    ·subst c
     rw [h3]; simp [ev]
    ·simp only [if_neg c]
     cases m[k]? <;> rfl
   rw [this, List.length_modify]
def lM (l : List Ver) : List Sc := l.foldl (fun m v => jH v.aL v.value m) []
def C8 (m : List Sc) : Sc := m.foldl Ins.bet ([], -1)
def pR (s : List UInt8) (m : List Sc) : List Sc := m.filter fun e => decide (e.1 ≠ s)
def uZ : Nat → List Sc → List Sc
 | 0, _ => []
 | k + 1, m => match m with
  | [] => []
  | e :: m => C8 (e :: m) :: uZ k (pR (C8 (e :: m)).1 (e :: m))
theorem DB : ∀ (m : List Sc) (b : Sc), m.foldl Ins.bet b = b ∨ m.foldl Ins.bet b ∈ m
 | [], b => .inl rfl
 | e :: m, b => by
  rw [List.foldl_cons]
  have hb : Ins.bet b e = e ∨ Ins.bet b e = b := by
   unfold Ins.bet
   split
   ·exact .inl rfl
   ·exact .inr rfl
  rcases DB m (Ins.bet b e) with q | q
  ·rw [q]
   rcases hb with r | r
   ·rw [r]; exact .inr (List.mem_cons_self ..)
   ·exact .inl r
  ·exact .inr (List.mem_cons_of_mem _ q)
theorem PT {m : List Sc} (hn : m ≠ []) (h0 : ∀ e ∈ m, 0 ≤ e.2) : C8 m ∈ m := by
 cases m with
 | nil => exact absurd rfl hn
 | cons e m =>
  unfold C8
  rw [List.foldl_cons]
  have he : Ins.bet ([], -1) e = e := by
   have := h0 e (List.mem_cons_self ..)
   have c : jP (-1) e.2 < 0 := tU.2 (by omega)
   unfold Ins.bet Ins.vV orI
   rw [if_neg (show ¬ jP (([], -1) : Sc).2 e.2 = 0 from fun q => by have q' : jP (-1) e.2 = 0 := q; omega), if_pos c]
  rw [he]
  rcases DB m e with q | q
  ·rw [q]; exact List.mem_cons_self ..
  ·exact List.mem_cons_of_mem _ q
theorem QQ {s : List UInt8} {m : List Sc} (h : ∀ e ∈ m, e.1 ≠ s) : pR s m = m := by
 unfold pR
 rw [List.filter_eq_self]
 intro e he
 exact decide_eq_true (h e he)
theorem DD {kt : TypeId} {k : a9} {p : a9 → Bool} : ∀ (es : List Ent) (i : Nat), (∀ e ∈ es, aU env kt k e.1 = M.pure (p e.1)) → mM env kt k es i = M.pure (eG p (es.map fun e => (e.1, e.2.1)) i)
 | [], _, _ => rfl
 | e :: es, i, h => by
  simp only [mM, h e (List.mem_cons_self ..), aB, List.map_cons, eG]
  cases p e.1 with
  | true => simp
  | false => simp only [Bool.false_eq_true]; exact DD es (i + 1) fun e he => h e (List.mem_cons_of_mem _ he)
theorem NU {es : List Ent} {ck : Nat} (f : Ins.Fit es ck) (s : List UInt8) : ∀ e ∈ es, aU env 9 (.str s) e.1 = M.pure (isS s e.1) := fun e he => by
 rw [(f.e e he).1]
 exact NR s _
theorem DN {s : List UInt8} : ∀ {es : List Ent} {i : Nat}, (∀ x ∈ es, x.1 = .str (Ins.dec x).1) → ((es.map Ins.dec).map (·.1)).Nodup → (∃ x ∈ es, (Ins.dec x).1 = s) →
  ∃ q y, eG (isS s) (es.map fun e => (e.1, e.2.1)) i = some (i + q, y) ∧ q < es.length ∧ (es.eraseIdx q).map Ins.dec = pR s (es.map Ins.dec)
 | [], i, _, _, h => by
  obtain ⟨x, hx, _⟩ := h
  cases hx
 | e :: es, i, hk, hd, h => by
  have he := hk e (List.mem_cons_self ..)
  rw [List.map_cons, List.map_cons, List.nodup_cons] at hd
  by_cases c : (Ins.dec e).1 = s
  ·refine ⟨0, e.2.1, ?_, by simp, ?_⟩
   ·simp only [List.map_cons, eG]
    rw [if_pos (by rw [he, c]; simp [isS])]; rfl
   ·rw [List.eraseIdx_cons_zero, List.map_cons]
    unfold pR
    rw [List.filter_cons_of_neg (by simp [c])]
    have : pR s (es.map Ins.dec) = es.map Ins.dec := QQ fun x hx q => hd.1 (by
     rw [c, ← q]
     exact List.mem_map.2 ⟨x, hx, rfl⟩)
    exact this.symm
  ·obtain ⟨q, y, h1, h2, h3⟩ := DN (i := i + 1) (fun x hx => hk x (List.mem_cons_of_mem _ hx)) hd.2 (by
    obtain ⟨x, hx, hs⟩ := h
    rcases List.mem_cons.1 hx with r | r
    ·rw [r] at hs; exact absurd hs c
    ·exact ⟨x, r, hs⟩)
   refine ⟨q + 1, y, ?_, by simpa using h2, ?_⟩
   ·simp only [List.map_cons, eG]
    have hne : ¬ s = (Ins.dec e).1 := fun w => c w.symm
    rw [if_neg (by rw [he]; simp [isS, hne]), h1]
    congr 2; omega
   ·rw [List.eraseIdx_cons_succ, List.map_cons, h3, List.map_cons]
    unfold pR
    rw [List.filter_cons_of_pos (by simp [c])]
theorem QI {h : Hp} {n id ck : Nat} {es : List Ent} (hm : h id = some (.map es ck)) (f : Ins.Fit es ck) (hd : ((es.map Ins.dec).map (·.1)).Nodup) {s : List UInt8} (hs : ∃ x ∈ es, (Ins.dec x).1 = s) :
  ∃ es2 h2, Wr (tX env [115, 9] (.map id) (.str s)) h n [id] [id] (a9.tup []) h2 ∧ h2 id = some (.map es2 ck) ∧ Ins.Fit es2 ck ∧ es2.map Ins.dec = pR s (es.map Ins.dec) ∧ es2.length + 1 = es.length ∧ ∀ j, j ≠ id → h2 j = h j := by
 obtain ⟨q, y, h1, h2, h3⟩ := DN (i := 0) (fun x hx => (f.e x hx).1) hd hs
 rw [Nat.zero_add] at h1
 refine ⟨es.eraseIdx q, Go.Am.upd h id (some (.map (es.eraseIdx q) ck)), ?_, aP _ _ _, ⟨fun x hx => f.e x (List.mem_of_mem_eraseIdx hx), ?_⟩, h3, by rw [List.length_eraseIdx, if_pos h2]; omega, fun j hj => aG _ _ hj⟩
 ·show Wr _ h n ([] ++ [id]) [id] _ _
  simp only [tX, HS, aB]
  refine Wr.bind (Rd.get hm) ?_
  simp only [lK, GO, aB, DD es 0 (NU f s), h1]
  exact (Wr.set hm).ret
 ·have : ((es.eraseIdx q).map fun x => x.2.2).Sublist (es.map fun x => x.2.2) := (List.eraseIdx_sublist es q).map _
  exact this.nodup f.d
theorem ET {s : List UInt8} {m : List Sc} (h : (m.map (·.1)).Nodup) : ((pR s m).map (·.1)).Nodup := ((List.filter_sublist (l := m)).map _).nodup h
theorem QP {s : List UInt8} {m : List Sc} (h : ∀ e ∈ m, 0 ≤ e.2) : ∀ e ∈ pR s m, 0 ≤ e.2 := fun e he => h e (List.mem_filter.1 he).1
def RiL (h : Hp) (a b : Nat) (v : a9) (rs : List Sc) : Prop := ∃ cells, Lst h 41 2 v rs.length cells ∧ (∀ (j : Nat) (hj : j < rs.length), ∃ sv, (cells.drop (j * 2)).take 2 = [sv, .int .i64 rs[j].2] ∧ Bytes h sv rs[j].1 ∧ ∀ i, bB sv = some i → a ≤ i ∧ i < b ∧ bB v ≠ some i) ∧ ∀ j, bB v = some j → a ≤ j ∧ j < b
theorem RiL.aS {h h' : Hp} {a b : Nat} {v : a9} {rs : List Sc} (l : RiL h a b v rs) (hk : ∀ j, a ≤ j → j < b → h' j = h j) : RiL h' a b v rs := by
 obtain ⟨cells, c1, c2, c3⟩ := l
 refine ⟨cells, c1.aS fun j q => hk j (c3 j q).1 (c3 j q).2, fun j hj => ?_, c3⟩
 obtain ⟨sv, e, bs, d⟩ := c2 j hj
 exact ⟨sv, e, bs.aS fun i q => hk i (d i q).1 (d i q).2.1, d⟩
theorem RiL.wide {h : Hp} {a b c d : Nat} {v : a9} {rs : List Sc} (l : RiL h a b v rs) (h1 : c ≤ a) (h2 : b ≤ d) : RiL h c d v rs := by
 obtain ⟨cells, c1, c2, c3⟩ := l
 refine ⟨cells, c1, fun j hj => ?_, fun j q => by have := c3 j q; omega⟩
 obtain ⟨sv, e, bs, w⟩ := c2 j hj
 exact ⟨sv, e, bs, fun i q => ⟨by have := (w i q).1; omega, by have := (w i q).2.1; omega, (w i q).2.2⟩⟩
theorem RiL.nil {h : Hp} {a b : Nat} : RiL h a b .aV [] := ⟨[], .nil, fun j hj => by simp at hj, fun j q => by cases q⟩
theorem u36 : und env 36 = M.pure (.slice 41) := rfl
theorem z41 : sizeOf env 41 = M.pure 2 := rfl
theorem RiL.len {h : Hp} {a b : Nat} {v : a9} {rs : List Sc} (l : RiL h a b v rs) {ts : List TypeId} : dD env (36 :: ts) v = M.pure (.int .i64 (rs.length : Nat)) := by
 obtain ⟨cells, c1, c2, c3⟩ := l
 exact c1.rds.dD u36
theorem GL {h : Hp} {n id ck : Nat} {es : List Ent} (hm : h id = some (.map es ck)) : Rd (dD env [115] (.map id)) h n ([] ++ [id]) (.int .i64 (es.length : Nat)) := by
 simp only [dD, HS, aB]
 exact Rd.bind (Rd.get hm) (Rd.pure _)
theorem G1 : ∀ (k : Nat) (h : Hp) (n : Nat), bG h n → Wp (Ins.CT k) h n fun _ h' n' => h' = h ∧ n' = n + k
 | 0, h, n, hf => aM.2 ⟨rfl, rfl⟩
 | k + 1, h, n, hf => by
  have e : upd (upd h n (some (.mT [] 0))) n none = h := by
   rw [wC]
   exact iX (hf n (Nat.le_refl _))
  unfold Ins.CT
  rw [hO, qI]
  refine ⟨by rw [aP]; simp, ?_⟩
  rw [e]
  refine dL (G1 k h (n + 1) (fun j hj => hf j (by omega))) fun _ h' n' q => ⟨q.1, by rw [q.2]; omega⟩
theorem Q5 (tm : List a9) (it mm ck : Nat) (es : List Ent) (s : List UInt8) (v : Int) (h : Hp) (n : Nat) (Q : fV × List a9 → Hp → Nat → Prop) (hl : tm.length = 85) (h58 : tm[58]? = some (.ptr it 0)) (h14 : tm[14]? = some (.str s)) (h15 : tm[15]? = some (.int .i64 v))
  (g1 : h it = some (.iM mm ck [] ck)) (g2 : h mm = some (.map es ck)) (fit : Ins.Fit es ck) (itn : it < n) (mmn : mm < n) (hf : bG h n)
  (hQ : Q (.normal, Ins.HD tm (Ins.BU es (s, v))) (upd h it none) (n + 1 + es.length)) : Wp (Ins.qN tm) h n Q := by
 have hl' : tm.length.beq 85 = true := by rw [hl]; rfl
 have e : upd (upd h n (some (.mT [] 0))) n none = h := by
  rw [wC]
  exact iX (hf n (Nat.le_refl _))
 unfold Ins.qN
 simp only [hl', h58, h14, h15]
 rw [fW]
 refine ⟨_, g1, ?_⟩
 simp only
 rw [fW]
 refine ⟨_, g2, ?_⟩
 simp only
 rw [hO, qI]
 refine ⟨by rw [aP]; simp, ?_⟩
 rw [e, if_pos ⟨fit, rfl, rfl, rfl, itn, mmn⟩]
 refine AO (dL (G1 es.length h (n + 1) (fun j hj => hf j (by omega))) fun _ h' n' q => ?_)
 obtain ⟨rfl, rfl⟩ := q
 rw [qI]
 exact ⟨by rw [g1]; simp, aM.2 hQ⟩
theorem rbk : gQ env.jR 17 4 Ins.UM.c = some Ins.qN := Ins.sJ Ins.UM _ rfl
theorem b41 (id len : Nat) (v : Int) : build env 41 [(0, .sl id 0 len none 1), (1, .int .i64 v)] = M.pure (.agg [.sl id 0 len none 1, .int .i64 v]) := rfl
theorem aD6 (x y : a9) (hx : dV x = false) (hc : x.cells = [x]) (hy : y.cells = [y]) (hj : dV y = false) : buildSlice env 36 1 [(0, .agg [x, y])] = (newRow env 41 [x, y]).bind fun id => M.pure (.sl id 0 1 (some 1) 2) := rfl
theorem VE {l : List Ver} {i : Nat} (h : i < l.length) : lM (l.take (i + 1)) = jH l[i].aL l[i].value (lM (l.take i)) := by
 unfold lM
 rw [kL h, List.foldl_append]; rfl
theorem D7 (s t : List UInt8) (v : Int) : ∀ m : List Sc, jF t (jH s v m) = if t = s then jF t m + v else jF t m
 | [] => by
  by_cases c : t = s <;> simp [jH, jF, c]
 | e :: m => by
  have ih := D7 s t v m
  by_cases c : s = e.1
  ·simp only [jH, if_pos c, jF]
   by_cases d : t = e.1
   ·rw [if_pos d, if_pos d, if_pos (by rw [c, d])]
   ·rw [if_neg d, if_neg d, if_neg (by rw [c]; exact d)]
  ·simp only [jH, if_neg c, jF]
   by_cases d : t = e.1
   ·rw [if_pos d, if_pos d, if_neg (by rw [d]; exact fun q => c q.symm)]
   ·rw [if_neg d, if_neg d]
    exact ih
theorem GR (s : List UInt8) {M : Int} (hM : 0 ≤ M) : ∀ (l : List Ver), (∀ v ∈ l, 0 ≤ v.value ∧ v.value ≤ M) → ∀ (m : List Sc), 0 ≤ jF s m → 0 ≤ jF s (l.foldl (fun m v => jH v.aL v.value m) m) ∧ jF s (l.foldl (fun m v => jH v.aL v.value m) m) ≤ jF s m + M * (l.length : Nat)
 | [], _, m, h => ⟨h, by simp⟩
 | v :: l, hv, m, h => by
  obtain ⟨a, b⟩ := hv v (List.mem_cons_self ..)
  have g := D7 v.aL s v.value m
  have hg : 0 ≤ jF s (jH v.aL v.value m) ∧ jF s (jH v.aL v.value m) ≤ jF s m + M := by
   rw [g]
   split <;> omega
  obtain ⟨c, d⟩ := GR s hM l (fun w hw => hv w (List.mem_cons_of_mem _ hw)) _ hg.1
  refine ⟨c, Int.le_trans d ?_⟩
  rw [List.length_cons]
  have : M * ((l.length + 1 : Nat) : Int) = M * (l.length : Nat) + M := by rw [Int.natCast_add, Int.mul_add, Int.natCast_one, Int.mul_one]
  omega
theorem VD (s : List UInt8) (l : List Ver) (hv : ∀ v ∈ l, 0 ≤ v.value ∧ v.value ≤ 2100000000000000) (hl : l.length ≤ 2000) : 0 ≤ jF s (lM l) ∧ jF s (lM l) ≤ 4200000000000000000 := by
 obtain ⟨a, b⟩ := GR s (M := 2100000000000000) (by decide) l hv [] (Int.le_refl _)
 refine ⟨a, Int.le_trans b ?_⟩
 have : jF s [] = 0 := rfl
 omega
theorem MN (Q : fC) (ks : List Kf) (v : a9) (s a b mid : Nat) (k z : Int) (l : List Ver) (h0 : Hp) (hl : l.length ≤ 1300) (hv : VL h0 a b v l) (hval : ∀ w ∈ l, 0 ≤ w.value ∧ w.value ≤ 2100000000000000) (hmid : mid < a) (hab : a ≤ b) (x0 : a9)
  (hT : ∀ (h : Hp) (n : Nat) (x9 x12 x13 x14 x15 x16 x17 x25 x33 x34 x35 x36 x56 x58 x60 x72 : a9), fR h mid 0 ((lM l).map ev) → b ≤ n → bG h n → (∀ j, j < mid → h j = h0 j) →
   eR env 17 none Q ks (.exit 0) (x0 :: .int .i64 k :: .int .i64 z :: a9.aA :: a9.aA :: a9.aA :: .aV :: .int .i64 0 :: a9.aA :: x9 :: .map mid :: a9.aA :: x12 :: x13 :: x14 :: x15 :: x16 :: x17 :: a9.aA :: a9.aA :: a9.aA :: a9.aA :: a9.aA :: a9.aA :: a9.aA :: x25 :: a9.aA :: a9.aA :: a9.aA :: a9.aA :: a9.aA :: a9.aA :: a9.aA :: x33 :: x34 :: x35 :: x36 :: a9.aA :: a9.aA :: a9.aA :: a9.aA :: a9.aA :: a9.aA :: a9.aA :: a9.aA :: a9.aA :: a9.aA :: a9.aA :: a9.aA :: a9.aA :: a9.aA :: a9.aA :: a9.aA :: a9.aA :: a9.aA :: a9.aA :: x56 :: a9.aA :: x58 :: a9.aA :: x60 :: a9.aA :: a9.aA :: a9.aA :: a9.aA :: a9.aA :: a9.aA :: a9.aA :: a9.aA :: a9.aA :: a9.aA :: a9.aA :: x72 :: a9.aA :: a9.aA :: a9.aA :: a9.aA :: a9.aA :: a9.aA :: a9.aA :: a9.aA :: a9.aA :: a9.aA :: a9.aA :: a9.aA :: []) h n) :
  ∀ (m i : Nat) (h : Hp) (n : Nat) (x9 x12 x13 x14 x15 x16 x17 x25 x36 x56 x58 x60 x72 : a9), i + m = l.length → fR h mid 0 ((lM (l.take i)).map ev) → b ≤ n → bG h n → (∀ j, j < b → j ≠ mid → h j = h0 j) →
   Run env 17 none Q (.loop BA) ks (x0 :: .int .i64 k :: .int .i64 z :: a9.aA :: a9.aA :: a9.aA :: .aV :: .int .i64 0 :: a9.aA :: x9 :: .map mid :: a9.aA :: x12 :: x13 :: x14 :: x15 :: x16 :: x17 :: a9.aA :: a9.aA :: a9.aA :: a9.aA :: a9.aA :: a9.aA :: a9.aA :: x25 :: a9.aA :: a9.aA :: a9.aA :: a9.aA :: a9.aA :: a9.aA :: a9.aA :: v :: .int .i64 (l.length : Nat) :: .int .i64 (i : Nat) :: x36 :: a9.aA :: a9.aA :: a9.aA :: a9.aA :: a9.aA :: a9.aA :: a9.aA :: a9.aA :: a9.aA :: a9.aA :: a9.aA :: a9.aA :: a9.aA :: a9.aA :: a9.aA :: a9.aA :: a9.aA :: a9.aA :: a9.aA :: x56 :: a9.aA :: x58 :: a9.aA :: x60 :: a9.aA :: a9.aA :: a9.aA :: a9.aA :: a9.aA :: a9.aA :: a9.aA :: a9.aA :: a9.aA :: a9.aA :: a9.aA :: x72 :: a9.aA :: a9.aA :: a9.aA :: a9.aA :: a9.aA :: a9.aA :: a9.aA :: a9.aA :: a9.aA :: a9.aA :: a9.aA :: a9.aA :: []) h n := by
 intro m
 induction m with
 | zero =>
  intro i h n x9 x12 x13 x14 x15 x16 x17 x25 x36 x56 x58 x60 x72 hm hmp hn hf ho
  have : i = l.length := by omega
  subst this
  rw [cY]
  have hcc : ¬ (((l.length : Nat) : Int) < ((l.length : Nat) : Int)) := by omega
  simp only [BA, c8, Try.f17, Option.getD_some, fgr, bor, Int.reduceNeg, List.getD_cons_zero, hcc, gE]
  rw [List.take_length] at hmp
  exact hT h n _ _ _ _ _ _ _ _ _ _ _ _ _ _ _ _ hmp hn hf fun j hj => ho j (by omega) (by omega)
 | succ m ih =>
  intro i h n x9 x12 x13 x14 x15 x16 x17 x25 x36 x56 x58 x60 x72 hm hmp hn hf ho
  have hil : i < l.length := by omega
  have hcc : (((i : Nat) : Int) < ((l.length : Nat) : Int)) := by omega
  have w1 : IntKind.i64.wrap (((i : Nat) : Int) + 1) = ((i + 1 : Nat) : Int) := by rw [w64 (by omega) (by omega)]; omega
  have hv1 : VL h a b v l := hv.aS fun j q1 q2 => ho j q2 (by omega)
  obtain ⟨sw, va⟩ := hv1.at_ hil
  have kd := va.s.kind
  have hs := VE hil
  have hw := hval _ (List.getElem_mem hil)
  have hle := VD l[i].aL (l.take i) (fun w q => hval w (List.mem_of_mem_take q)) (by rw [List.length_take]; omega)
  have w2 : IntKind.i64.wrap (jF l[i].aL (lM (l.take i)) + l[i].value) = jF l[i].aL (lM (l.take i)) + l[i].value := w64 (by omega) (by omega)
  rw [cY]
  simp only [BA, c8, Try.f17, Option.getD_some, fgr, bor, Int.reduceNeg, List.getD_cons_zero, hcc, gE]
  rw [aI (hv1.idx hil)]
  simp only [gE]
  rw [aI (va.all n)]
  simp only [gE]
  rw [cD eB rfl]
  simp only [cel, gE]
  refine dM (v := .agg (aK l[i] sw)) eB rfl (bD va.ok.h va.ok.b) (cS kd.2.1) hf fun H1 r1 p1 f1 => ?_
  replace r1 : Row H1 n (aK l[i] sw) := r1
  have m1 : fR H1 mid 0 ((lM (l.take i)).map ev) := hmp.aS (p1 mid (by omega))
  have s1 : Bytes H1 sw l[i].aL := va.s.aS fun j q => p1 j (by have := va.sn j q; omega)
  simp only [tyr, fgr, aQ, gE]
  rw [aI (kN r1 va.ok)]
  simp only [gE]
  rw [aI (s1.EB t29 t9 t5)]
  simp only [gE]
  rw [aI (QH m1 l[i].aL)]
  simp only [tyr, aQ, gE]
  rw [aI (nI r1 va.ok)]
  obtain ⟨h2, wr, m2, o2⟩ := kX (n := n + 1) m1 l[i].aL l[i].value
  simp only [bor, bS, w2, gE]
  rw [eS wr]
  simp only [fgr, bor, bS, w1, gE]
  rw [← hs] at m2
  exact ih (i + 1) h2 (n + 1) _ _ _ _ _ _ _ _ _ _ _ _ _ (by omega) m2 (by omega) (fun j hj => by rw [o2 j (by omega)]; exact f1 j hj) (fun j q1 q2 => by rw [o2 j q2, p1 j (by omega), ho j q1 q2])
theorem MM (Q : fC) (ks : List Kf) (mid : Nat) (k z : Int) (h0 : Hp) (x0 : a9) :
  ∀ (c : Nat) (es : List Ent) (ck : Nat) (out : List Sc) (u : a9) (h : Hp) (n : Nat) (x9 x12 x14 x15 x16 x17 x25 x33 x34 x35 x36 x56 x58 x60 x72 : a9), es.length = c → c + out.length ≤ 2000 → h mid = some (.map es ck) → Ins.Fit es ck → ((es.map Ins.dec).map (·.1)).Nodup → (∀ e ∈ es.map Ins.dec, 0 ≤ e.2) →
   RiL h (mid + 1) n u out → mid < n → bG h n → (∀ j, j < mid → h j = h0 j) →
   (∀ (h : Hp) (n : Nat) (u : a9) (x0 x1 x2 x9 x12 x14 x15 x16 x17 x25 x33 x34 x35 x36 x56 x58 x60 x72 : a9), RiL h (mid + 1) n u (out ++ uZ (k.toNat - out.length) (es.map Ins.dec)) → mid < n → bG h n → (∀ j, j < mid → h j = h0 j) →
    eR env 17 none Q ks (.exit 2) (x0 :: x1 :: x2 :: a9.aA :: a9.aA :: a9.aA :: .aV :: .int .i64 0 :: a9.aA :: x9 :: .map mid :: a9.aA :: x12 :: u :: x14 :: x15 :: x16 :: x17 :: a9.aA :: a9.aA :: a9.aA :: a9.aA :: a9.aA :: a9.aA :: a9.aA :: x25 :: a9.aA :: a9.aA :: a9.aA :: a9.aA :: a9.aA :: a9.aA :: a9.aA :: x33 :: x34 :: x35 :: x36 :: a9.aA :: a9.aA :: a9.aA :: a9.aA :: a9.aA :: a9.aA :: a9.aA :: a9.aA :: a9.aA :: a9.aA :: a9.aA :: a9.aA :: a9.aA :: a9.aA :: a9.aA :: a9.aA :: a9.aA :: a9.aA :: a9.aA :: x56 :: a9.aA :: x58 :: a9.aA :: x60 :: a9.aA :: a9.aA :: a9.aA :: a9.aA :: a9.aA :: a9.aA :: a9.aA :: a9.aA :: a9.aA :: a9.aA :: a9.aA :: x72 :: a9.aA :: a9.aA :: a9.aA :: a9.aA :: a9.aA :: a9.aA :: a9.aA :: a9.aA :: a9.aA :: a9.aA :: a9.aA :: a9.aA :: []) h n) →
   Run env 17 none Q (.loop B9) ks (x0 :: .int .i64 k :: .int .i64 z :: a9.aA :: a9.aA :: a9.aA :: .aV :: .int .i64 0 :: a9.aA :: x9 :: .map mid :: a9.aA :: x12 :: u :: x14 :: x15 :: x16 :: x17 :: a9.aA :: a9.aA :: a9.aA :: a9.aA :: a9.aA :: a9.aA :: a9.aA :: x25 :: a9.aA :: a9.aA :: a9.aA :: a9.aA :: a9.aA :: a9.aA :: a9.aA :: x33 :: x34 :: x35 :: x36 :: a9.aA :: a9.aA :: a9.aA :: a9.aA :: a9.aA :: a9.aA :: a9.aA :: a9.aA :: a9.aA :: a9.aA :: a9.aA :: a9.aA :: a9.aA :: a9.aA :: a9.aA :: a9.aA :: a9.aA :: a9.aA :: a9.aA :: x56 :: a9.aA :: x58 :: a9.aA :: x60 :: a9.aA :: a9.aA :: a9.aA :: a9.aA :: a9.aA :: a9.aA :: a9.aA :: a9.aA :: a9.aA :: a9.aA :: a9.aA :: x72 :: a9.aA :: a9.aA :: a9.aA :: a9.aA :: a9.aA :: a9.aA :: a9.aA :: a9.aA :: a9.aA :: a9.aA :: a9.aA :: a9.aA :: []) h n := by
 intro c
 induction c with
 | zero =>
  intro es ck out u h n x9 x12 x14 x15 x16 x17 x25 x33 x34 x35 x36 x56 x58 x60 x72 hc hcl hm fit hnd hnn hu hmn hf ho hT
  rw [cY]
  simp only [B9, c8, Try.f17, Option.getD_some, builtin, Int.reduceNeg, List.getD_cons_zero, List.getD_cons_succ, gE]
  rw [aI (GL hm)]
  simp only [fgr, bor, aT, Int.cast_ofNat_Int, Int.reduceLT, Int.reduceNeg, gt_iff_lt, hc, gE]
  have : es = [] := List.eq_nil_of_length_eq_zero hc
  subst this
  have e : uZ (k.toNat - out.length) (([] : List Ent).map Ins.dec) = [] := by cases k.toNat - out.length <;> rfl
  rw [e, List.append_nil] at hT
  exact hT h n u _ _ _ _ _ _ _ _ _ _ _ _ _ _ _ _ _ _ hu hmn hf ho
 | succ c ih =>
  intro es ck out u h n x9 x12 x14 x15 x16 x17 x25 x33 x34 x35 x36 x56 x58 x60 x72 hc hcl hm fit hnd hnn hu hmn hf ho hT
  have hc0 : 0 < ((es.length : Nat) : Int) := by omega
  rw [cY]
  simp only [B9, c8, Try.f17, Option.getD_some, builtin, Int.reduceNeg, List.getD_cons_zero, List.getD_cons_succ, gE]
  rw [aI (GL hm)]
  simp only [fgr, builtin, bor, aT, Int.reduceNeg, gt_iff_lt, hc0, hu.len, gE]
  by_cases hk : ((out.length : Nat) : Int) < k
  ·simp only [fgr, Int.reduceNeg, hk, gE]
   simp only [range, HS, aB, B0]
   refine ⟨_, hm, ?_⟩
   simp only [oD]
   obtain ⟨H1, hH1⟩ : ∃ H1, H1 = upd h n (some (.iM mid ck [] ck)) := ⟨_, rfl⟩
   have g1 : H1 n = some (.iM mid ck [] ck) := by rw [hH1, aP]
   have o1 : ∀ j, j ≠ n → H1 j = h j := fun j hj => by rw [hH1, aG _ _ hj]
   have f1 : bG H1 (n + 1) := by rw [hH1]; exact hf.new
   rw [← hH1]
   clear hH1
   simp only [bP, fgr, bX, put, aE, Int.reduceNeg]
   refine I5 rbk ?_
   refine Q5 _ n mid ck es [] (-1) H1 (n + 1) _ rfl rfl rfl rfl g1 ((o1 mid (by omega)).trans hm) fit (by omega) (by omega) f1 ?_
   have hne : es.map Ins.dec ≠ [] := fun q => by
    have := congrArg List.length q
    rw [List.length_map] at this
    simp only [List.length_nil] at this
    omega
   have ert : uZ (k.toNat - out.length) (es.map Ins.dec) = C8 (es.map Ins.dec) :: uZ (k.toNat - (out.length + 1)) (pR (C8 (es.map Ins.dec)).1 (es.map Ins.dec)) := by
    obtain ⟨j, hj⟩ : ∃ j, k.toNat - out.length = j + 1 := ⟨k.toNat - out.length - 1, by omega⟩
    rw [hj, show k.toNat - (out.length + 1) = j by omega]
    cases hm' : es.map Ins.dec with
    | nil => exact absurd hm' hne
    | cons e m => rfl
   have etop : Ins.BU es ([], -1) = C8 (es.map Ins.dec) := rfl
   have tmem := PT hne hnn
   rw [ert] at hT
   generalize hr : C8 (es.map Ins.dec) = r at *
   rw [etop]
   generalize hn2 : n + 1 + 1 + es.length = n2
   generalize hH2 : upd H1 n none = H2
   have o2 : ∀ j, j ≠ n → H2 j = h j := fun j hj => by rw [← hH2, aG _ _ hj, o1 j hj]
   have f2 : bG H2 n2 := by
    rw [← hH2]
    intro j hj
    rw [aG _ _ (by omega)]
    exact f1 j (by omega)
   have hm2 : H2 mid = some (.map es ck) := (o2 mid (by omega)).trans hm
   simp only [Ins.HD, Ins.EJ, Int.reduceNeg, gE]
   simp only [bP, tyr, und, sizeOf, eI, dC, bE, Int.reduceNeg, convert, oG]
   rw [zO]
   refine fD ti5 f2 (f := fun id => a9.sl id 0 r.1.length none 1) fun H3 r3 o3 f3 => ?_
   have b3 : Bytes H3 (.sl n2 0 r.1.length none 1) r.1 := Bytes.vE r3
   simp only [Int.reduceNeg, b41, aD6 (.sl n2 0 r.1.length none 1) (.int .i64 r.2) rfl rfl rfl rfl, gE]
   refine fD HW f3 (f := fun id => a9.sl id 0 1 (some 1) 2) fun H4 r4 o4 f4 => ?_
   have b4 := b3.aS (h' := H4) fun j q => o4 j (by injection q with q; omega)
   have hu4 : RiL H4 (mid + 1) n u out := hu.aS fun j q1 q2 => by rw [o4 j (by omega), o3 j (by omega), o2 j (by omega)]
   obtain ⟨cells, c1, c2, c3⟩ := hu4
   have hrw : Rds H4 2 (.sl (n2 + 1) 0 1 (some 1) 2) 1 [.sl n2 0 r.1.length none 1, .int .i64 r.2] := mV (cnt := 1) r4 rfl
   simp only [builtin, Int.reduceNeg, gE]
   refine j3 (i := PR.i) (e := 41) c1 hrw u36 u36 HW rfl (by decide) (by show 2 * (out.length + 1) * 32 ≤ _; omega) (by omega) f4 ?_
   intro u5 h5 n5 hn5 f5 l5 i5 o5
   have hm5 : h5 mid = some (.map es ck) := by
    rw [o5 mid (by omega) (fun q => by have := c3 mid q; omega), o4 mid (by omega), o3 mid (by omega)]
    exact hm2
   obtain ⟨xm, hxm, hxr⟩ := List.mem_map.1 tmem
   obtain ⟨es6, h6, wr, m6, fit6, d6, l6, o6⟩ := QI (n := n5) hm5 fit hnd (s := r.1) ⟨xm, hxm, by rw [hxr]⟩
   simp only [fgr, builtin, Int.reduceNeg, gE]
   rw [eS wr]
   simp only [bP, fgr, bX, aE, Int.reduceNeg]
   have id5 : ∀ j, bB u5 = some j → mid + 1 ≤ j ∧ j < n5 := fun j q => by
    rcases i5 with w | ⟨w, w2⟩
    ·rw [w] at q
     have := c3 j q
     omega
    ·rw [w] at q
     injection q with q
     omega
   have hne5 : ∀ j, j < n2 + 1 + 1 → bB u ≠ some j → bB u5 ≠ some j := fun j hj hn q => by
    rcases i5 with w | ⟨w, _⟩
    ·rw [w] at q; exact hn q
    ·rw [w] at q; injection q with q; omega
   have hu6 : RiL h6 (mid + 1) n5 u5 (out ++ [r]) := by
    have cl : cells.length = out.length * 2 := c1.rds.length
    refine ⟨cells ++ [.sl n2 0 r.1.length none 1, .int .i64 r.2], ?_, fun j hj => ?_, id5⟩
    ·rw [List.length_append]
     exact l5.aS fun j q => o6 j (by have := id5 j q; omega)
    ·by_cases hlt : j < out.length
     ·obtain ⟨sv, e, bs, d⟩ := c2 j hlt
      rw [List.getElem_append_left hlt]
      refine ⟨sv, ?_, bs.aS fun i q => ?_, fun i q => ?_⟩
      ·rw [List.drop_append_of_le_length (by omega), List.take_append_of_le_length (by rw [List.length_drop]; omega)]
       exact e
      ·have := d i q
       rw [o6 i (by omega), o5 i (by omega) this.2.2]
      ·have := d i q
       exact ⟨this.1, by omega, hne5 i (by omega) this.2.2⟩
     ·have : j = out.length := by rw [List.length_append, List.length_singleton] at hj; omega
      subst this
      rw [List.getElem_append_right (Nat.le_refl _)]
      simp only [Nat.sub_self, List.getElem_cons_zero]
      refine ⟨.sl n2 0 r.1.length none 1, ?_, b4.aS fun i q => ?_, fun i q => ?_⟩
      ·rw [← cl, List.drop_left]; rfl
      ·injection q with q
       subst q
       rw [o6 _ (by omega), o5 _ (by omega) (fun w => by have := c3 _ w; omega)]
      ·injection q with q
       subst q
       exact ⟨by omega, by omega, hne5 _ (by omega) (fun w => by have := c3 _ w; omega)⟩
   refine ih es6 ck (out ++ [r]) u5 h6 n5 _ _ _ _ _ _ _ _ _ _ _ _ _ _ _ (by omega) (by rw [List.length_append, List.length_singleton]; omega) m6 fit6 (by rw [d6]; exact ET hnd) (by rw [d6]; exact QP hnn) hu6 (by omega) (fun j hj => by rw [o6 j (by omega)]; exact f5 j hj) (fun j hj => ?_) ?_
   ·rw [o6 j (by omega), o5 j (by omega) (fun q => by have := c3 j q; omega), o4 j (by omega), o3 j (by omega), o2 j (by omega), ho j hj]
   ·rw [d6, List.length_append, List.length_singleton, List.append_assoc]
    exact hT
  ·simp only [bP, Int.reduceNeg, decide_false, hk]
   have e0 : k.toNat - out.length = 0 := by omega
   rw [e0, show uZ 0 (es.map Ins.dec) = [] from rfl, List.append_nil] at hT
   exact hT h n u _ _ _ _ _ _ _ _ _ _ _ _ _ _ _ _ _ _ hu hmn hf ho
def uY (L : List Ver) (I : List Inf) (k z : Int) : List Sc := match gS I z with
 | some _ => uZ k.toNat (lM (L.filter fun v => gB v z))
 | none => []
theorem DO : ∀ (m : List Sc) (b : Nat), (gG b (m.map ev)).map Ins.dec = m
 | [], _ => rfl
 | e :: m, b => by
  simp only [List.map_cons, gG]
  rw [DO m (b + 1)]; rfl
theorem DC : ∀ (m : List Sc) (b ck : Nat), b + m.length ≤ ck → Ins.Fit (gG b (m.map ev)) ck ∧ ∀ x ∈ gG b (m.map ev), b ≤ x.2.2
 | [], b, ck, _ => ⟨⟨(fun x hx => nomatch hx), List.nodup_nil⟩, (fun x hx => nomatch hx)⟩
 | e :: m, b, ck, h => by
  rw [List.length_cons] at h
  obtain ⟨f, g⟩ := DC m (b + 1) ck (by omega)
  simp only [List.map_cons, gG]
  refine ⟨⟨fun x hx => ?_, ?_⟩, fun x hx => ?_⟩
  ·rcases List.mem_cons.1 hx with rfl | q
   ·exact ⟨rfl, rfl, (show b < ck by omega)⟩
   ·exact f.e x q
  ·rw [List.map_cons, List.nodup_cons]
   refine ⟨fun q => ?_, f.d⟩
   obtain ⟨x, hx, hb⟩ := List.mem_map.1 q
   have := g x hx
   have hb' : x.2.2 = b := hb
   omega
  ·rcases List.mem_cons.1 hx with rfl | q
   ·exact Nat.le_refl _
   ·have := g x q; omega
theorem uU (s : List UInt8) (v : Int) : ∀ m : List Sc, (jH s v m).map (·.1) = if s ∈ m.map (·.1) then m.map (·.1) else m.map (·.1) ++ [s]
 | [] => rfl
 | e :: m => by
  have ih := uU s v m
  by_cases c : s = e.1
  ·simp [jH, c]
  ·have h1 : (jH s v (e :: m)) = e :: jH s v m := if_neg c
   rw [h1, List.map_cons, List.map_cons, ih]
   by_cases d : s ∈ m.map (·.1)
   ·rw [if_pos d, if_pos (List.mem_cons_of_mem _ d)]
   ·rw [if_neg d, if_neg fun w => (List.mem_cons.1 w).elim c d]; rfl
theorem FZ {s : List UInt8} {v : Int} {m : List Sc} (h : (m.map (·.1)).Nodup) : ((jH s v m).map (·.1)).Nodup := by
 rw [uU]
 split
 ·exact h
 ·rename_i c
  rw [List.nodup_append]
  refine ⟨h, by simp, fun a ha b hb => ?_⟩
  rw [List.mem_singleton] at hb
  subst hb
  exact fun q => c (by rw [← q]; exact ha)
theorem HO {s : List UInt8} {v : Int} (hv : 0 ≤ v) : ∀ {m : List Sc}, (∀ e ∈ m, 0 ≤ e.2) → ∀ e ∈ jH s v m, 0 ≤ e.2
 | [], h, e, he => by
  rw [jH, List.mem_singleton] at he
  subst he; exact hv
 | x :: m, h, e, he => by
  have hx := h x (List.mem_cons_self ..)
  unfold jH at he
  split at he
  ·rcases List.mem_cons.1 he with rfl | q
   ·show 0 ≤ x.2 + v
    omega
   ·exact h e (List.mem_cons_of_mem _ q)
  ·rcases List.mem_cons.1 he with rfl | q
   ·exact hx
   ·exact HO hv (fun y hy => h y (List.mem_cons_of_mem _ hy)) e q
theorem GW : ∀ (l : List Ver) (m : List Sc), (∀ v ∈ l, 0 ≤ v.value) → (m.map (·.1)).Nodup → (∀ e ∈ m, 0 ≤ e.2) →
  ((l.foldl (fun m v => jH v.aL v.value m) m).map (·.1)).Nodup ∧ (∀ e ∈ l.foldl (fun m v => jH v.aL v.value m) m, 0 ≤ e.2) ∧ (l.foldl (fun m v => jH v.aL v.value m) m).length ≤ m.length + l.length
 | [], m, _, h1, h2 => ⟨h1, h2, Nat.le_refl _⟩
 | v :: l, m, hv, h1, h2 => by
  obtain ⟨a, b, c⟩ := GW l (jH v.aL v.value m) (fun w hw => hv w (List.mem_cons_of_mem _ hw)) (FZ h1) (HO (hv v (List.mem_cons_self ..)) h2)
  refine ⟨a, b, ?_⟩
  have hl : (jH v.aL v.value m).length ≤ m.length + 1 := by
   have := congrArg List.length (uU v.aL v.value m)
   rw [List.length_map] at this
   rw [this]
   split
   ·rw [List.length_map]; omega
   ·rw [List.length_append, List.length_map]; simp
  have c' : (l.foldl (fun m v => jH v.aL v.value m) (jH v.aL v.value m)).length ≤ (jH v.aL v.value m).length + l.length := c
  rw [List.foldl_cons, List.length_cons]
  omega
theorem f17 {W : Nat → Prop} {h : Hp} {n s : Nat} {L : List Ver} {I : List Inf} (q : St W h n s L I) (k z : Int) (hI : I.length ≤ 900000) (hL : L.length ≤ 1300) (hval : ∀ v ∈ L, 0 ≤ v.value ∧ v.value ≤ 2100000000000000) (hf : bG h n) :
  Wp (bM env (aY env) 17 [.ptr s 0, .int .i64 k, .int .i64 z]) h n fun v' h' n' => Old h h' n ∧ ∃ u, v' = .tup [u, .int .i64 (mH (gS I z))] ∧ RiL h' n n' u (uY L I k z) := by
 refine aZ X0 WS ?_
 simp only [EX, Try.f17, Option.getD_some, List.replicate, fgr, hkr, Nat.reduceAdd, Nat.reduceSub, Int.reduceNeg, gE]
 refine aJ hf (f25 q z (by omega) hf) fun v3 h3 n3 hn3 f3 ⟨e3, ob3, o3⟩ => ?_
 subst e3
 have q3 := q.old hn3 o3
 simp only [Int.reduceNeg, gE]
 rw [cD gJ rfl]
 simp only [cel, Int.reduceNeg, gE]
 refine dM (v := .agg (bQ ((gS I z).getD eN))) gJ rfl (bV ob3) (eM _) f3 fun H4 r4 o4 f4 => ?_
 have O4 : Old h3 H4 n3 := fun j hj => o4 j (by omega)
 have q4 := q3.old (n' := n3 + 1) (by omega) O4
 have OO4 : Old h H4 n := fun j hj => by rw [O4 j (by omega), o3 j hj]
 cases hi : gS I z with
 | none =>
  have hc : uY L I k z = [] := by unfold uY; rw [hi]
  rw [hc]
  simp only [fgr, bor, Int.reduceEq, Int.reduceNeg, mH, gE]
  exact ⟨OO4, _, rfl, .nil⟩
 | some i0 =>
  have hc : uY L I k z = uZ k.toNat (lM (L.filter fun v => gB v z)) := by unfold uY; rw [hi]
  rw [hc]
  simp only [tyr, fgr, opt, bor, aQ, Int.reduceNeg, mH, pP, oD, gE]
  obtain ⟨H5, hH5⟩ : ∃ H5, H5 = upd H4 (n3 + 1) (some (.map [] 0)) := ⟨_, rfl⟩
  have g5 : H5 (n3 + 1) = some (.map [] 0) := by rw [hH5, aP]
  have o5 : ∀ j, j ≠ n3 + 1 → H5 j = H4 j := fun j hj => by rw [hH5, aG _ _ hj]
  have f5 : bG H5 (n3 + 1 + 1) := by rw [hH5]; exact f4.new
  rw [← hH5]
  clear hH5
  have q5 := q4.old (n' := n3 + 1 + 1) (by omega) (h' := H5) fun j hj => o5 j (by omega)
  have OO5 : Old h H5 n := fun j hj => by rw [o5 j (by omega), OO4 j hj]
  obtain ⟨x, lv, rs, ix, il, sa, sb, sc⟩ := q5
  rw [aI (rs.one (off := 0) rfl oC rfl)]
  simp only [hkr, Int.reduceNeg, gE]
  refine aJ f5 (aC0 z ix.k (by omega) f5) fun v6 h6 n6 hn6 f6 ⟨l6, o6⟩ => ?_
  generalize hl : (L.filter fun v => gB v z) = l at *
  have ll : l.length ≤ 1300 := by rw [← hl]; exact Nat.le_trans (List.length_filter_le _ _) hL
  have lval : ∀ w ∈ l, 0 ≤ w.value ∧ w.value ≤ 2100000000000000 := fun w hw => by
   rw [← hl] at hw
   exact hval w (List.mem_filter.1 hw).1
  have g6 : fR h6 (n3 + 1) 0 ((lM (l.take 0)).map ev) := (o6 _ (by omega)).trans g5
  simp only [fgr, builtin, Int.reduceNeg, l6.len, gE]
  refine MN _ _ v6 s (n3 + 1 + 1) n6 (n3 + 1) k z l h6 ll l6 lval (by omega) hn6 _ ?_ l.length 0 h6 n6 _ _ _ _ _ _ _ _ _ _ _ _ _ (by omega) g6 (Nat.le_refl _) f6 (fun j _ _ => rfl)
  intro h7 n7 x9 x12 x13 x14 x15 x16 x17 x25 x33 x34 x35 x36 x56 x58 x60 x72 m7 hn7 f7 o7
  obtain ⟨nd7, nn7, ln7⟩ := GW l [] (fun w hw => (lval w hw).1) List.nodup_nil (fun e he => by cases he)
  have m7' : h7 (n3 + 1) = some (.map (gG 0 ((lM l).map ev)) (0 + ((lM l).map ev).length)) := m7
  have hde : (gG 0 ((lM l).map ev)).map Ins.dec = lM l := DO _ _
  have hle : (gG 0 ((lM l).map ev)).length = (lM l).length := by rw [pY, List.length_map]
  have hfit := (DC (lM l) 0 (0 + ((lM l).map ev).length) (by rw [List.length_map]; omega)).1
  have hlen7 : (lM l).length ≤ 1300 := by
   have : (lM l).length ≤ ([] : List Sc).length + l.length := ln7
   simp only [List.length_nil] at this
   omega
  simp only [fgr, Int.reduceNeg, gE]
  refine MM _ _ (n3 + 1) k z h7 _ _ (gG 0 ((lM l).map ev)) _ [] .aV h7 n7 _ _ _ _ _ _ _ _ _ _ _ _ _ _ _ rfl (by rw [hle]; show _ + 0 ≤ _; omega) m7' hfit (by rw [hde]; exact nd7) (by rw [hde]; exact nn7) .nil (by omega) f7 (fun j _ => rfl) ?_
  intro h8 n8 u x0 x1 x2 x9 x12 x14 x15 x16 x17 x25 x33 x34 x35 x36 x56 x58 x60 x72 r8 hn8 f8 o8
  rw [hde] at r8
  simp only [fgr, gE]
  refine ⟨fun j hj => by rw [o8 j (by omega), o7 j (by omega), o6 j (by omega), OO5 j hj], u, rfl, ?_⟩
  exact RiL.wide r8 (by omega) (Nat.le_refl _)
structure RAt (h : Hp) (a b : Nat) (v : a9) (k : Nat) (e : Sc) (sv : a9) : Prop where
 bal : ∀ n, Rd (load env 2 (dB (k + 1) v)) h n (rid v) (.int .i64 e.2)
 aL : ∀ n, Rd (load env 29 (dB k v)) h n (rid v) sv
 mv : ∀ k m, aQ m (dB k v) = M.pure (dB (k + m) v)
 s : Bytes h sv e.1
 sn : ∀ j, bB sv = some j → a ≤ j ∧ j < b
theorem RiL.at_ {h : Hp} {a b : Nat} {v : a9} {rs : List Sc} (l : RiL h a b v rs) {i : Nat} (hi : i < rs.length) : ∃ sv, RAt h a b v (i * 2) rs[i] sv := by
 obtain ⟨cells, c1, c2, c3⟩ := l
 obtain ⟨sv, e, bs, d⟩ := c2 i hi
 have hr := c1.rds
 have hl : i * 2 + 2 ≤ cells.length := by rw [show cells.length = rs.length * 2 from hr.length]; omega
 have one : ∀ k x, k < 2 → [sv, a9.int .i64 rs[i].2][k]? = some x → cells[i * 2 + k]? = some x := fun k x hk hx => by rw [GG e hk, hx]
 exact ⟨sv, fun n => hr.load ti2 rfl (one 1 _ (by omega) rfl), fun n => hr.load wQ rfl (one 0 _ (by omega) rfl), fun k m => qS hr (by omega) k m, bs, fun j q => ⟨(d j q).1, (d j q).2.1⟩⟩
theorem RiL.idx {h : Hp} {a b : Nat} {v : a9} {rs : List Sc} (l : RiL h a b v rs) {i : Nat} (hi : i < rs.length) {h' : Hp} {n' : Nat} : Rd (indexAddr env 36 v (.int .i64 ((i : Nat) : Int))) h' n' [] (dB (i * 2) v) := by
 obtain ⟨cells, c1, c2, c3⟩ := l
 exact c1.rds.idx u36 z41 rfl hi
theorem V2 (Q : fC) (ks : List Kf) (v w : a9) (a b c d : Nat) (rs : List Sc) (h : Hp) (n : Nat) (hl : rs.length ≤ 100000) (hv : RiL h a b v rs) (hw : RiL h c d w rs)
  (hT : ∀ (x1 x4 x5 x10 x14 x42 : a9), eR env 18 none Q ks (.exit 0) (v :: x1 :: a9.aA :: a9.aA :: x4 :: x5 :: a9.aA :: a9.aA :: a9.aA :: a9.aA :: x10 :: a9.aA :: a9.aA :: a9.aA :: x14 :: a9.aA :: a9.aA :: a9.aA :: a9.aA :: a9.aA :: a9.aA :: a9.aA :: a9.aA :: a9.aA :: a9.aA :: a9.aA :: a9.aA :: a9.aA :: a9.aA :: a9.aA :: a9.aA :: a9.aA :: a9.aA :: a9.aA :: a9.aA :: a9.aA :: a9.aA :: a9.aA :: a9.aA :: a9.aA :: a9.aA :: a9.aA :: x42 :: []) h n) :
  ∀ (m i : Nat) (x4 x10 x14 x42 : a9), i + m = rs.length → Run env 18 none Q (.loop ER) ks (v :: w :: a9.aA :: a9.aA :: x4 :: .int .i64 (i : Nat) :: a9.aA :: a9.aA :: a9.aA :: a9.aA :: x10 :: a9.aA :: a9.aA :: a9.aA :: x14 :: a9.aA :: a9.aA :: a9.aA :: a9.aA :: a9.aA :: a9.aA :: a9.aA :: a9.aA :: a9.aA :: a9.aA :: a9.aA :: a9.aA :: a9.aA :: a9.aA :: a9.aA :: a9.aA :: a9.aA :: a9.aA :: a9.aA :: a9.aA :: a9.aA :: a9.aA :: a9.aA :: a9.aA :: a9.aA :: a9.aA :: a9.aA :: x42 :: []) h n := by
 intro m
 induction m with
 | zero =>
  intro i x4 x10 x14 x42 hm
  have : i = rs.length := by omega
  subst this
  rw [cY]
  have hcc : ¬ (((rs.length : Nat) : Int) < ((rs.length : Nat) : Int)) := by omega
  simp only [ER, c8, Try.f18, Option.getD_some, fgr, builtin, bor, hv.len, List.getD_cons_zero, hcc, gE]
  exact hT _ _ _ _ _ _
 | succ m ih =>
  intro i x4 x10 x14 x42 hm
  have hil : i < rs.length := by omega
  have hcc : (((i : Nat) : Int) < ((rs.length : Nat) : Int)) := by omega
  have w1 : IntKind.i64.wrap (((i : Nat) : Int) + 1) = ((i + 1 : Nat) : Int) := by rw [w64 (by omega) (by omega)]; omega
  obtain ⟨sv, va⟩ := hv.at_ hil
  obtain ⟨sw, wa⟩ := hw.at_ hil
  rw [cY]
  simp only [ER, c8, Try.f18, Option.getD_some, fgr, builtin, bor, hv.len, List.getD_cons_zero, hcc, gE]
  refine cP ⟨rfl, ?_⟩
  simp only [Nat.reduceAdd, gE]
  rw [bJ (hv.idx hil)]
  simp only [tyr, Nat.reduceAdd, va.mv, gE]
  rw [bJ (va.bal n)]
  simp only [Nat.reduceAdd, gE]
  rw [bJ (hw.idx hil)]
  simp only [tyr, Nat.reduceAdd, wa.mv, gE]
  rw [bJ (wa.bal n)]
  simp only [bor, Nat.reduceAdd, gE]
  rw [bJ (hv.idx hil)]
  simp only [tyr, Nat.reduceAdd, va.mv, gE]
  rw [bJ (va.aL n)]
  simp only [Nat.reduceAdd, gE]
  rw [bJ (va.s.EB t29 t9 t5)]
  simp only [Nat.reduceAdd, gE]
  rw [bJ (hw.idx hil)]
  simp only [tyr, Nat.reduceAdd, wa.mv, gE]
  rw [bJ (wa.aL n)]
  simp only [Nat.reduceAdd, gE]
  rw [bJ (wa.s.EB t29 t9 t5)]
  simp only [fgr, bor, bS, strOp, aT, Nat.reduceAdd, gE]
  refine ⟨(by (try simp (disch := first | assumption | omega) only [dW, gF]); repeat' (first | rfl | exact (Bool.or_eq_true _ _).mpr (.inr rfl) | refine (Bool.and_eq_true _ _).mpr ⟨?_, ?_⟩)), ?_⟩
  simp only [w1]
  exact ih (i + 1) _ _ _ _ (by omega)
theorem f18 (v w : a9) (a b c d : Nat) (rs : List Sc) (h : Hp) (n : Nat) (hl : rs.length ≤ 100000) (hv : RiL h a b v rs) (hw : RiL h c d w rs) :
  Wp (bM env (aY env) 18 [v, w]) h n fun v' h' n' => v' = .bool true ∧ h' = h ∧ n' = n := by
 refine aZ aA9 aq7 ?_
 simp only [WM, Try.f18, Option.getD_some, List.replicate, fgr, builtin, bor, Nat.reduceAdd, Nat.reduceSub, hv.len, hw.len, gE]
 refine V2 _ _ v w a b c d rs h n hl hv hw ?_ rs.length 0 _ _ _ _ (by omega)
 intro x1 x4 x5 x10 x14 x42
 simp only [fgr, gE]
def NoS (h : Hp) (n : Nat) (v : a9) : Prop := v = .dP ∨ ∃ z lv, v = .ptr z 0 ∧ z < n ∧ Row h z [.dP, lv]
theorem NoS.old {h h' : Hp} {n n' : Nat} {v : a9} (q : NoS h n v) (hn : n ≤ n') (ho : Old h h' n) : NoS h' n' v := by
 rcases q with q | ⟨z, lv, e, hz, r⟩
 ·exact .inl q
 ·exact .inr ⟨z, lv, e, by omega, r.aS (ho z hz)⟩
theorem NL (v : a9) (h : Hp) (n : Nat) (hv : NoS h n v) : Wp (bM env (aY env) 66 [v]) h n fun v' h' n' => v' = .bool true ∧ h' = h ∧ n' = n := by
 rcases hv with rfl | ⟨z, lv, rfl, _, r⟩
 ·exact aB7 h n
 ·exact aB5 z lv h n r
theorem aD8 : build env 61 [] = M.pure (.agg (bQ eN)) := rfl
theorem af4 (v : a9) (z : Int) (h : Hp) (n : Nat) (hv : NoS h n v) (hf : bG h n) :
  Wp (bM env (aY env) 25 [v, .int .i64 z]) h n fun v' h' n' => v' = .tup [.agg (bQ eN), .int .i64 1] ∧ Old h h' n := by
 refine aZ ad1 ZL ?_
 simp only [R0, Try.f25, Option.getD_some, List.replicate, Nat.reduceAdd, Nat.reduceSub, gE]
 refine dU (v := .int .i64 z) ti3 rfl hf fun H1 r1 o1 f1 => ?_
 simp only [gE]
 rw [cD gJ rfl]
 obtain ⟨H2, hH2⟩ : ∃ H2, H2 = upd H1 (n + 1) (some (.row (.l (bQ eN)) 61)) := ⟨_, rfl⟩
 have g2 : H2 (n + 1) = some (.row (.l (bQ eN)) 61) := by rw [hH2, aP]
 have o2 : ∀ j, j ≠ n + 1 → H2 j = H1 j := fun j hj => by rw [hH2, aG _ _ hj]
 have f2 : bG H2 (n + 1 + 1) := by rw [hH2]; exact f1.new
 show Ops _ _ _ _ _ _ _ _ (upd H1 (n + 1) (some (.row (.l (bQ eN)) 61))) _
 rw [← hH2]
 clear hH2
 have O2 : Old h H2 n := fun j hj => by rw [o2 j (by omega), o1 j (by omega)]
 simp only [fgr, hkr, gE]
 refine dA (NL v H2 (n + 1 + 1) (hv.old (by omega) O2)) ?_
 simp only [fgr, aD8, gE]
 rw [eS (Row.eZ (off := 0) (v := .agg (bQ eN)) g2 gJ (bV fA) (by rw [bV fA]; decide) (eM _))]
 rw [eL (by rfl)]
 simp only [fgr, cel, gE]
 refine fL (Row.gT (cs := bQ eN) ⟨61, aP _ _ _⟩ gJ rfl (bV fA)) (aM.2 ?_)
 exact ⟨rfl, fun j hj => by rw [aG _ _ (by omega), O2 j hj]⟩
theorem aC9 (v : a9) (k z : Int) (h : Hp) (n : Nat) (hv : NoS h n v) (hf : bG h n) :
  Wp (bM env (aY env) 17 [v, .int .i64 k, .int .i64 z]) h n fun v' h' n' => v' = .tup [.aV, .int .i64 1] ∧ Old h h' n := by
 refine aZ X0 WS ?_
 simp only [EX, Try.f17, Option.getD_some, List.replicate, fgr, hkr, Nat.reduceAdd, Nat.reduceSub, Int.reduceNeg, gE]
 refine aJ hf (af4 v z h n hv hf) fun v3 h3 n3 hn3 f3 ⟨e3, o3⟩ => ?_
 subst e3
 simp only [Int.reduceNeg, gE]
 rw [cD gJ rfl]
 simp only [cel, Int.reduceNeg, gE]
 refine dM (v := .agg (bQ eN)) gJ rfl (bV fA) (eM _) f3 fun H4 r4 o4 f4 => ?_
 simp only [fgr, bor, Int.reduceEq, Int.reduceNeg, gE]
 exact fun j hj => by rw [o4 j (by omega), o3 j hj]
theorem aC8 (v : a9) (A : App) (mv sv : a9) (h : Hp) (n : Nat) (hv : NoS h n v) (hb : A.block.length = 32) (hm : mv.cells = [mv] ∧ bI mv = true ∧ dV mv = false) (hs : sv.cells = [sv] ∧ bI sv = true ∧ dV sv = false) (hf : bG h n) :
  Wp (bM env (aY env) 19 [v, .agg (cX A mv sv)]) h n fun v' h' n' => v' = .int .i64 1 ∧ Old h h' n := by
 refine aZ ad5 ZP ?_
 simp only [RA, Try.f19, Option.getD_some, List.replicate, Nat.reduceAdd, Nat.reduceSub, gE]
 refine dU (v := .agg (cX A mv sv)) AT rfl hf fun H1 r1 o1 f1 => ?_
 have O1 : Old h H1 n := fun j hj => o1 j (by omega)
 simp only [fgr, hkr, gE]
 refine dA (NL v H1 (n + 1) (hv.old (by omega) O1)) ?_
 simp only [fgr, gE]
 exact O1
theorem aC7 (v : a9) (z : Int) (h : Hp) (n : Nat) (hv : NoS h n v) :
  Wp (bM env (aY env) 22 [v, .int .i64 z]) h n fun v' h' n' => v' = .int .i64 1 ∧ h' = h ∧ n' = n := by
 refine aZ ad3 ZN ?_
 simp only [R2, Try.f22, Option.getD_some, List.replicate, fgr, hkr, Nat.reduceAdd, Nat.reduceSub, Int.reduceNeg, gE]
 refine dA (NL v h n hv) ?_
 simp only [fgr, Int.reduceNeg, gE]
theorem aC6 (v : a9) (h : Hp) (n : Nat) (hv : NoS h n v) : Wp (bM env (aY env) 24 [v]) h n fun v' h' n' => v' = .aV ∧ h' = h ∧ n' = n := by
 refine aZ ad2 ZM ?_
 simp only [R1, Try.f24, Option.getD_some, List.replicate, fgr, hkr, Nat.reduceSub, gE]
 refine dA (NL v h n hv) ?_
 simp only [fgr, gE]
theorem aC5 (v : a9) (h : Hp) (n : Nat) (hv : NoS h n v) : Wp (bM env (aY env) 28 [v]) h n fun v' h' n' => v' = .dP ∧ h' = h ∧ n' = n := by
 refine aZ ad0 ZK ?_
 simp only [QZ, Try.f28, Option.getD_some, List.replicate, fgr, hkr, Nat.reduceSub, gE]
 refine dA (NL v h n hv) ?_
 simp only [fgr, gE]
theorem QU {h : Hp} {n id : Nat} {i : Inf} (hr : Row h id (bQ i)) (hb : i.block.length = 32) : Rd (load env 25 (.ptr id 1)) h n [id] (.agg (i.block.map u8)) := by
 have key := hr.agg (E := env) (n := n) (off := 1) kH rfl (by rw [bV hb]; decide)
 have e : ((bQ i).drop 1).take 32 = i.block.map u8 := by
  show (i.block.map u8 ++ _).take 32 = _
  rw [List.take_append_of_le_length (by rw [List.length_map]; omega), List.take_of_length_le (by rw [List.length_map]; omega)]
 exact e ▸ key
theorem f23 {W : Nat → Prop} {h : Hp} {n s : Nat} {L : List Ver} {I : List Inf} (q : St W h n s L I) (z : Int) (hc : I.length ≤ 1000000) (hf : bG h n) :
  Wp (bM env (aY env) 23 [.ptr s 0, .int .i64 z]) h n fun v' h' n' => v' = .tup [.agg (((gS I z).getD eN).block.map u8), .int .i64 (mH (gS I z))] ∧ Old h h' n := by
 refine aZ aA7 aq5 ?_
 simp only [WK, Try.f23, Option.getD_some, List.replicate, Nat.reduceAdd, Nat.reduceSub, gE]
 rw [cD kH rfl]
 obtain ⟨H1, hH1⟩ : ∃ H1, H1 = upd h n (some (.row (.l EA.i.zero.cells) 25)) := ⟨_, rfl⟩
 have g1 : H1 n = some (.row (.l EA.i.zero.cells) 25) := by rw [hH1, aP]
 have o1 : ∀ j, j ≠ n → H1 j = h j := fun j hj => by rw [hH1, aG _ _ hj]
 have f1 : bG H1 (n + 1) := by rw [hH1]; exact hf.new
 show Ops _ _ _ _ _ _ _ _ (upd h n (some (.row (.l EA.i.zero.cells) 25))) _
 rw [← hH1]
 clear hH1
 have q1 := q.old (n' := n + 1) (by omega) (h' := H1) fun j hj => o1 j (by omega)
 simp only [fgr, hkr, gE]
 refine aJ f1 (f25 q1 z hc f1) fun v3 h3 n3 hn3 f3 ⟨e3, ob3, o3⟩ => ?_
 subst e3
 simp only [gE]
 rw [cD gJ rfl]
 simp only [cel, gE]
 refine dM (v := .agg (bQ ((gS I z).getD eN))) gJ rfl (bV ob3) (eM _) f3 fun H4 r4 o4 f4 => ?_
 replace r4 : Row H4 n3 (bQ ((gS I z).getD eN)) := r4
 have g4 : H4 n = some (.row (.l EA.i.zero.cells) 25) := by rw [o4 n (by omega), o3 n (by omega)]; exact g1
 simp only [tyr, fgr, aQ, gE]
 rw [aI (QU r4 ob3)]
 simp only [gE]
 have bl : (((gS I z).getD eN).block.map u8).length = 32 := by rw [List.length_map]; exact ob3
 rw [eS (Row.eZ (off := 0) (v := .agg (((gS I z).getD eN).block.map u8)) g4 kH bl (by decide) (by
  show (((gS I z).getD eN).block.map u8).all bI = true
  rw [List.all_map]; simp [u8, bI]))]
 rw [eL (by rw [show (a9.agg (((gS I z).getD eN).block.map u8)).cells = ((gS I z).getD eN).block.map u8 from rfl, bl]; rfl)]
 simp only [fgr, cel, gE]
 refine fL (Row.gT (cs := ((gS I z).getD eN).block.map u8) ⟨25, aP _ _ _⟩ kH rfl bl) (aM.2 ?_)
 exact ⟨rfl, fun j hj => by rw [aG _ _ (by omega), o4 j (by omega), o3 j (by omega), o1 j (by omega)]⟩
def sF : List Inf := [xU, sG]
def X5 : App := ⟨3, z32, [], [], 0, 0⟩
def X4 : App := ⟨2, z32, [nw 2 2 0 []], [], 0, 0⟩
def NN : App := ⟨2, z32, [], [⟨z0, 1, z32⟩], 0, 0⟩
def X3 : App := ⟨2, z32, [nw 7 2 2100000000000000 []], [], 0, 0⟩
def NQ : App := ⟨2, z32, [], [], 2100000000000000, 0⟩
def NP : App := ⟨2, z32, [], [], 0, 2099999999999996⟩
def NM : List Inf := [xU, sG, ⟨2, z32, 2, 50, 3, 2100000000000000⟩]
def vF : App := ⟨3, z32, [nw 1 3 5 [], nw 8 3 2099999999999940 []], [⟨z0, 8, hb_ 4⟩], 0, 0⟩
def J5 : List Ver := ((fJ nT NM vF).getD ([], [])).1
def DI : List Inf := ((fJ nT NM vF).getD ([], [])).2
def J4 : List Ver := oR 0 J5
def F9 : List Inf := DI.take 1
def DJ : App := ⟨0, z32, [nw 1 0 0 []], [⟨z0, 1, z32⟩], 0, 0⟩
theorem ap6 : fJ nT sF X5 = none := by kernel_rfl
theorem ap7 : fJ nT sF X4 = none := by kernel_rfl
theorem ap8 : fJ nT sF NN = none := by kernel_rfl
theorem ap9 : fJ nT sF X3 = none := by kernel_rfl
theorem aF2 : fJ nT sF NQ = none := by kernel_rfl
theorem aF1 : fJ nT sF NP = some (nT, NM) := by kernel_rfl
theorem aF0 : fJ nT NM vF = some (J5, DI) := by kernel_rfl
theorem aE9 : fJ [] [] DJ = none := by kernel_rfl
theorem cv1 : ((qA nT sF z0 1 0).map (asV 0)).getD noV = nw 1 0 50 [115] := by kernel_rfl
theorem cs1 : (qA nT sF z0 1 0).isSome = true := by kernel_rfl
theorem cs2 : (qA nT sF z0 1 1).isSome = false := by kernel_rfl
theorem ie0 : mH (gS sF 0) = 0 := by kernel_rfl
theorem ie1 : mH (gS sF 1) = 0 := by kernel_rfl
theorem ie2 : mH (gS sF 2) = 221 := by kernel_rfl
theorem iem : mH (gS sF (-1)) = 221 := by kernel_rfl
theorem rv1 : uY nT sF 9 1 = [([115], 30), ([116], 20)] := by kernel_rfl
theorem XN : ∀ v ∈ nT, 0 ≤ v.value ∧ v.value ≤ 2100000000000000 := by decide
theorem i33 : mH (gS DI 3) = 0 := by kernel_rfl
theorem i30 : mH (gS DI 0) = 0 := by kernel_rfl
theorem tr1 : pB J5 DI z0 1 3 = [iU (nw 1 0 50 [115]) 1 (hb_ 9), nw 1 3 5 []] := by kernel_rfl
theorem tr2 : pB J5 DI z0 1 0 = [nw 1 0 50 [115]] := by kernel_rfl
theorem tr3 : pB J5 DI z0 8 3 = [iU (nw 8 3 2099999999999940 []) 3 (hb_ 4)] := by kernel_rfl
theorem T4l : DI.length = 4 := by kernel_rfl
theorem L4l : J5.length = 5 := by kernel_rfl
theorem T5l : F9.length = 1 := by kernel_rfl
theorem L5l : J4.length = 1 := by kernel_rfl
theorem L5e : J4 = [nw 1 0 50 [115]] := by kernel_rfl
theorem i50 : mH (gS F9 0) = 0 := by kernel_rfl
theorem bk5 : ((gS F9 0).getD eN).block = hb_ 1 := by kernel_rfl
theorem rv5 : uY J4 F9 1 0 = [([115], 50)] := by kernel_rfl
theorem rv6 : uY J4 F9 (-5) 0 = [] := by kernel_rfl
theorem SB : ∀ v ∈ J4, 0 ≤ v.value ∧ v.value ≤ 2100000000000000 := by rw [L5e]; decide
theorem aE2 (bR : Int) : build env 46 [(0, .int .i64 bR)] = M.pure (.agg (cX ⟨bR, z32, [], [], 0, 0⟩ .aV .aV)) := rfl
theorem ah7 (bR : Int) (n : Nat) : build env 46 [(0, .int .i64 bR), (2, .sl n 0 1 (some 1) 70)] = M.pure (.agg (cX ⟨bR, z32, [], [], 0, 0⟩ (.sl n 0 1 (some 1) 70) .aV)) := rfl
theorem aE0 (bR : Int) (n : Nat) : build env 46 [(0, .int .i64 bR), (3, .sl n 0 1 (some 1) 65)] = M.pure (.agg (cX ⟨bR, z32, [], [], 0, 0⟩ .aV (.sl n 0 1 (some 1) 65))) := rfl
theorem ah9 (bR x : Int) : build env 46 [(0, .int .i64 bR), (4, .int .i64 x)] = M.pure (.agg (cX ⟨bR, z32, [], [], x, 0⟩ .aV .aV)) := rfl
theorem ah8 (bR x : Int) : build env 46 [(0, .int .i64 bR), (5, .int .i64 x)] = M.pure (.agg (cX ⟨bR, z32, [], [], 0, x⟩ .aV .aV)) := rfl
theorem ah6 (bR : Int) (n m : Nat) : build env 46 [(0, .int .i64 bR), (2, .sl n 0 2 (some 2) 70), (3, .sl m 0 1 (some 1) 65)] = M.pure (.agg (cX ⟨bR, z32, [], [], 0, 0⟩ (.sl n 0 2 (some 2) 70) (.sl m 0 1 (some 1) 65))) := rfl
theorem aD9 (n m : Nat) : build env 46 [(2, .sl n 0 1 (some 1) 70), (3, .sl m 0 1 (some 1) 65)] = M.pure (.agg (cX ⟨0, z32, [], [], 0, 0⟩ (.sl n 0 1 (some 1) 70) (.sl m 0 1 (some 1) 65))) := rfl
theorem aE1 : build env 46 [] = M.pure (.agg (cX ⟨0, z32, [], [], 0, 0⟩ .aV .aV)) := rfl
theorem ai2 (k made : Int) : build env 31 [(0, .agg (aX z0 k)), (1, .int .i64 made)] = M.pure (.agg (aK (nw k made 0 []) .aV)) := rfl
theorem PA (k made value : Int) : build env 31 [(0, .agg (aX z0 k)), (1, .int .i64 made), (2, .int .i64 value)] = M.pure (.agg (aK (nw k made value []) .aV)) := rfl
theorem ai3 (k : Int) : build env 31 [(0, .agg (aX z0 k))] = M.pure (.agg (aK (nw k 0 0 []) .aV)) := rfl
theorem SV (k : Int) : build env 48 [(0, .agg (aX z0 k))] = M.pure (.agg (gD ⟨z0, k, z32⟩)) := rfl
theorem ai4 : build env 25 [(0, .int .u8 4)] = M.pure (.agg ((hb_ 4).map u8)) := rfl
theorem ai0 (n : Nat) (x : Int) : build env 41 [(0, .sl n 0 1 (some 1) 1), (1, .int .i64 x)] = M.pure (.agg [.sl n 0 1 (some 1) 1, .int .i64 x]) := rfl
theorem ag7 (n m : Nat) (x y : Int) : buildSlice env 36 2 [(0, .agg [.sl n 0 1 (some 1) 1, .int .i64 x]), (1, .agg [.sl m 0 1 (some 1) 1, .int .i64 y])] = (newRow env 41 [.sl n 0 1 (some 1) 1, .int .i64 x, .sl m 0 1 (some 1) 1, .int .i64 y]).bind fun id => M.pure (.sl id 0 2 (some 2) 2) := rfl
theorem HJ (a b : List UInt8) (ha : a.length = 32) (hb : b.length = 32) : aR env .eql 25 (.agg (a.map u8)) (.agg (b.map u8)) = M.pure (.bool (decide (a = b))) := by
 have e := J7 98 a b ha hb
 unfold aR
 simp only
 unfold aU
 rw [e, aB]
theorem Q6 {h : Hp} {a b id i1 i2 : Nat} {x y : Int} {l1 l2 : List UInt8} (hh : h id = some (.row (.l [.sl i1 0 1 (some 1) 1, .int .i64 x, .sl i2 0 1 (some 1) 1, .int .i64 y]) 41)) (b1 : Bytes h (.sl i1 0 1 (some 1) 1) l1) (b2 : Bytes h (.sl i2 0 1 (some 1) 1) l2)
  (d1 : a ≤ i1 ∧ i1 < b ∧ i1 ≠ id) (d2 : a ≤ i2 ∧ i2 < b ∧ i2 ≠ id) (d3 : a ≤ id ∧ id < b) : RiL h a b (.sl id 0 2 (some 2) 2) [(l1, x), (l2, y)] := by
 refine ⟨_, .sl id 2 (some 2) _ _ hh (Nat.le_refl 4) (fun k q => by injection q with q; subst q; exact ⟨Nat.le_refl _, Nat.le_refl 4⟩) rfl, fun j hj => ?_, fun j q => by injection q with q; omega⟩
 have : j = 0 ∨ j = 1 := by simp at hj; omega
 rcases this with rfl | rfl
 ·exact ⟨_, rfl, b1, fun i q => by injection q with q; exact ⟨by omega, by omega, fun w => by injection w with w; omega⟩⟩
 ·exact ⟨_, rfl, b2, fun i q => by injection q with q; exact ⟨by omega, by omega, fun w => by injection w with w; omega⟩⟩
theorem VL.ix {h : Hp} {a b : Nat} {v : a9} {vs : List Ver} (l : VL h a b v vs) {i : Nat} (hi : i < vs.length) {z : Int} (hz : z = (i : Nat)) {k : Nat} (hk : k = i * 70) {h' : Hp} {n' : Nat} : Rd (indexAddr env 43 v (.int .i64 z)) h' n' [] (dB k v) := by
 subst hz; subst hk
 exact l.idx hi
theorem VL.by_ {h : Hp} {a b : Nat} {v : a9} {vs : List Ver} (l : VL h a b v vs) {i : Nat} (hi : i < vs.length) (n : Nat) : vs[i].by_.length = 32 ∧ Rd (load env 25 (dB (i * 70 + 38) v)) h n (rid v) (.agg (vs[i].by_.map u8)) := by
 obtain ⟨cells, c1, c2, c3⟩ := l
 obtain ⟨sv, e, bs, o, d⟩ := c2.at_ i hi
 refine ⟨o.b, ?_⟩
 have key := c1.rds.agg (E := env) (n := n) (k := i * 70 + 38) kH rfl (by decide) (by show i * 70 + 38 + 32 ≤ _; rw [c2.len]; omega)
 have e' : (cells.drop (i * 70 + 38)).take 32 = vs[i].by_.map u8 := by
  have e1 : (cells.drop (i * 70 + 38)).take 32 = (((cells.drop (i * 70)).take 70).drop 38).take 32 := by
   rw [List.drop_take, List.drop_drop, List.take_take]; rfl
  rw [e1, e]
  have hp : aK vs[i] sv = (aX vs[i].aO vs[i].pn ++ [.int .i64 vs[i].made, .int .i64 vs[i].value, sv, .bool vs[i].eQ, .int .i64 vs[i].cV]) ++ vs[i].by_.map u8 := by simp [aK, nG]
  rw [hp, List.drop_append_of_le_length (by simp [c9 o.h]), List.drop_of_length_le (by simp [c9 o.h]), List.nil_append, List.take_of_length_le (by simp [o.b])]
 exact e' ▸ key
theorem YP {h : Hp} {a b : Nat} {u : a9} {l : List UInt8} {x : Int} (r : RiL h a b u [(l, x)]) : (∀ h' n', Rd (indexAddr env 36 u (.int .i64 0)) h' n' [] (dB 0 u)) ∧ aQ 1 (dB 0 u) = M.pure (dB 1 u) ∧ ∀ n, Rd (load env 2 (dB 1 u)) h n (rid u) (.int .i64 x) := by
 obtain ⟨cells, c1, c2, c3⟩ := r
 obtain ⟨sv, e, _⟩ := c2 0 (by simp)
 refine ⟨fun h' n' => c1.rds.idx (j := 0) u36 z41 rfl (by simp), qS c1.rds (by simp) 0 1, fun n => c1.rds.load (k := 1) ti2 rfl ?_⟩
 have := GG (a := 0 * 2) (i := 1) e (by omega)
 exact this
theorem HE {W : Nat → Prop} {h : Hp} {n s : Nat} {L : List Ver} {I : List Inf} (q : St W h n s L I) (z : Int) (hz : z < -1 ∨ ((I.length : Nat) : Int) - 1 < z) (hI : I.length ≤ 900000) (hL : L.length ≤ 900000) (hf : bG h n) :
  Wp (bM env (aY env) 22 [.ptr s 0, .int .i64 z]) h n fun v' h' n' => v' = .int .i64 221 ∧ (∀ j, j < n → j ≠ s → h' j = h j) ∧ St W h' n' s L I := by
 refine dL (f22 q z hI hL hf) fun v' h' n' ⟨o, hh⟩ => ?_
 rcases hh with ⟨_, e, s'⟩ | ⟨a, b, _⟩
 ·exact ⟨e, o, s'⟩
 ·omega
theorem X9 {W : Nat → Prop} {h : Hp} {n s : Nat} {L : List Ver} {I : List Inf} (q : St W h n s L I) (z : Int) (h1 : -1 ≤ z) (h2 : z ≤ ((I.length : Nat) : Int) - 1) (hI : I.length ≤ 900000) (hL : L.length ≤ 900000) (hf : bG h n) :
  Wp (bM env (aY env) 22 [.ptr s 0, .int .i64 z]) h n fun v' h' n' => v' = .int .i64 0 ∧ (∀ j, j < n → j ≠ s → h' j = h j) ∧ St W h' n' s (oR z L) (I.take (z + 1).toNat) := by
 refine dL (f22 q z hI hL hf) fun v' h' n' ⟨o, hh⟩ => ?_
 rcases hh with ⟨a, _⟩ | ⟨_, _, e, s'⟩
 ·omega
 ·exact ⟨e, o, s'⟩
end Go.Am.Ytlgebaofkolkoaa
set_option linter.unusedSimpArgs false
set_option linter.unusedVariables false
set_option linter.defProp false
set_option maxRecDepth 10000
namespace Go.Am.Ytlgebaofkolkoaa
open Go Go.Am Go.Proofs
set_option maxHeartbeats 40000000 in
theorem law3 : Wp (bM env (aY env) 3 []) (fun _ => none) 0 fun v _ _ => v = .bool true := by
 refine aZ ff3 fi3 ?_
 simp only [fu3, Try.f3, Option.getD_some, List.replicate, fgr, hkr, Nat.reduceSub, Int.reduceNeg, gE]
 refine aJ bG.none (f14 (fun _ => False) _ 0 bG.none (fun j w => w.elim)) fun v1 h1 n1 hn1 fr1 ⟨s, e1, hx, s1, o1⟩ => ?_
 subst e1
 have s1 : St (fun j => False ∨ j = s) h1 n1 s nT sF := s1
 have sn := s1.sn
 have nW : ∀ j, s < j → ¬ (False ∨ j = s) := fun j q w => w.elim id fun w => by omega
 simp only [fgr, hkr, Int.reduceNeg, gE]
 refine aJ fr1 (f16 1 h1 n1 fr1) fun v2 h2 n2 hn2 fr2 ⟨e2, o2⟩ => ?_
 subst e2
 have s2 := s1.old (n' := n2) (by omega) o2
 simp only [hkr, Int.reduceNeg, gE]
 refine aJ fr2 (f15 s2 z0 1 (0) rfl (by decide) (by decide) fr2) fun v3 h3 n3 hn3 fr3 ⟨o3, t3, e3, k3, b3, _⟩ => ?_
 subst e3
 have s3 := s2.old (n' := n3) (by omega) o3
 simp only [Int.reduceNeg, cs1, ie0, gE]
 rw [cD eB rfl]
 simp only [cel, Int.reduceNeg, gE]
 refine dM eB rfl (bD k3.h k3.b) (cS b3.kind.2.1) fr3 fun h4 r4 p4 fr4 => ?_
 have o4 : Old h3 h4 n3 := fun j hj => p4 j (by omega)
 have s4 := s3.old (n' := (n3 + 1)) (by omega) o4
 replace r4 : Row h4 n3 (aK _ t3) := r4
 rw [cv1] at r4
 have R4 := r4
 simp only [fgr, hkr, Int.reduceNeg, gE]
 refine aJ fr4 (f16 1 h4 (n3 + 1) fr4) fun v5 h5 n5 hn5 fr5 ⟨e5, o5⟩ => ?_
 subst e5
 have s5 := s4.old (n' := n5) (by omega) o5
 have R5 := R4.aS (o5 _ (by omega))
 simp only [hkr, Int.reduceNeg, gE]
 refine aJ fr5 (f15 s5 z0 1 (1) rfl (by decide) (by decide) fr5) fun v6 h6 n6 hn6 fr6 ⟨o6, t6, e6, k6, b6, _⟩ => ?_
 subst e6
 have s6 := s5.old (n' := n6) (by omega) o6
 have R6 := R5.aS (o6 _ (by omega))
 simp only [Int.reduceNeg, cs2, ie1, gE]
 rw [cD eB rfl]
 simp only [cel, Int.reduceNeg, gE]
 refine dM eB rfl (bD k6.h k6.b) (cS b6.kind.2.1) fr6 fun h7 r7 p7 fr7 => ?_
 have o7 : Old h6 h7 n6 := fun j hj => p7 j (by omega)
 have s7 := s6.old (n' := (n6 + 1)) (by omega) o7
 have R7 := R6.aS (o7 _ (by omega))
 simp only [fgr, hkr, Int.reduceNeg, gE]
 refine aJ fr7 (f16 1 h7 (n6 + 1) fr7) fun v8 h8 n8 hn8 fr8 ⟨e8, o8⟩ => ?_
 subst e8
 have s8 := s7.old (n' := n8) (by omega) o8
 have R8 := R7.aS (o8 _ (by omega))
 simp only [hkr, Int.reduceNeg, gE]
 refine aJ fr8 (f15 s8 z0 1 (2) rfl (by decide) (by decide) fr8) fun v9 h9 n9 hn9 fr9 ⟨o9, t9, e9, k9, b9, _⟩ => ?_
 subst e9
 have s9 := s8.old (n' := n9) (by omega) o9
 have R9 := R8.aS (o9 _ (by omega))
 simp only [Int.reduceNeg, ie2, gE]
 rw [cD eB rfl]
 simp only [cel, Int.reduceNeg, gE]
 refine dM eB rfl (bD k9.h k9.b) (cS b9.kind.2.1) fr9 fun h10 r10 p10 fr10 => ?_
 have o10 : Old h9 h10 n9 := fun j hj => p10 j (by omega)
 have s10 := s9.old (n' := (n9 + 1)) (by omega) o10
 have R10 := R9.aS (o10 _ (by omega))
 simp only [fgr, hkr, Int.reduceNeg, gE]
 refine aJ fr10 (f16 1 h10 (n9 + 1) fr10) fun v11 h11 n11 hn11 fr11 ⟨e11, o11⟩ => ?_
 subst e11
 have s11 := s10.old (n' := n11) (by omega) o11
 have R11 := R10.aS (o11 _ (by omega))
 simp only [hkr, Int.reduceNeg, gE]
 refine aJ fr11 (f15 s11 z0 1 (-1) rfl (by decide) (by decide) fr11) fun v12 h12 n12 hn12 fr12 ⟨o12, t12, e12, k12, b12, _⟩ => ?_
 subst e12
 have s12 := s11.old (n' := n12) (by omega) o12
 have R12 := R11.aS (o12 _ (by omega))
 simp only [Int.reduceNeg, iem, gE]
 rw [cD eB rfl]
 simp only [cel, Int.reduceNeg, gE]
 refine dM eB rfl (bD k12.h k12.b) (cS b12.kind.2.1) fr12 fun h13 r13 p13 fr13 => ?_
 have o13 : Old h12 h13 n12 := fun j hj => p13 j (by omega)
 have s13 := s12.old (n' := (n12 + 1)) (by omega) o13
 have R13 := R12.aS (o13 _ (by omega))
 simp only [fgr, hkr, Int.reduceNeg, gE]
 refine aJ fr13 (f17 s13 9 1 (by decide) (by decide) XN fr13) fun v14 h14 n14 hn14 fr14 ⟨o14, u, e14, ri14⟩ => ?_
 subst e14
 have s14 := s13.old (n' := n14) (by omega) o14
 have R14 := R13.aS (o14 _ (by omega))
 rw [rv1] at ri14
 simp only [tyr, fgr, aQ, Int.reduceNeg, ie1, gE]
 rw [aI (Row.one (off := 37) (x := .int .i64 0) R14 rfl ti3 rfl)]
 simp only [tyr, bor, aT, aQ, Int.reduceNeg, gE]
 rw [aI (Row.one (off := 34) (x := .int .i64 50) R14 rfl ti2 rfl)]
 simp only [tyr, bor, unOp, aT, cel, Nat.beq, Int.reduceNeg, buildSlice, fS, fill, List.take_zero, List.drop_succ_cons, List.drop_zero, Nat.ble, Nat.one_mul, gE]
 refine fD ti5 fr14 (f := fun id => a9.sl id 0 1 (some 1) 1) fun h15 r15 p15 fr15 => ?_
 have o15 : Old h14 h15 n14 := fun j hj => p15 j (by omega)
 have s15 := s14.old (n' := (n14 + 1)) (by omega) o15
 have ri15 := ri14.aS (h' := h15) fun j q1 q2 => o15 j (by omega)
 have B115_15 : Bytes h15 (.sl n14 0 1 (some 1) 1) [115] := Bytes.vE (l := [115]) r15
 simp only [tyr, lenOf, cel, cT, Nat.beq, Int.reduceNeg, reduceCtorEq, buildSlice, fS, fill, List.take_zero, List.drop_succ_cons, List.drop_zero, Nat.ble, Nat.one_mul, Option.some.injEq, exists_eq_left', ne_eq, convert, gP, oG, r15, iX r15, uW, show (Nat.blt 0 1) = true from rfl, ai0, gE]
 refine fD ti5 fr15 (f := fun id => a9.sl id 0 1 (some 1) 1) fun h16 r16 p16 fr16 => ?_
 have o16 : Old h15 h16 (n14 + 1) := fun j hj => p16 j (by omega)
 have s16 := s15.old (n' := ((n14 + 1) + 1)) (by omega) o16
 have ri16 := ri15.aS (h' := h16) fun j q1 q2 => o16 j (by omega)
 have B116_16 : Bytes h16 (.sl (n14 + 1) 0 1 (some 1) 1) [116] := Bytes.vE (l := [116]) r16
 have B115_16 := B115_15.aS (h' := h16) fun j q => o16 j (by injection q with q; omega)
 simp only [tyr, lenOf, cT, Nat.beq, Int.reduceNeg, reduceCtorEq, Option.some.injEq, exists_eq_left', ne_eq, convert, gP, oG, r16, iX r16, uW, show (Nat.blt 0 1) = true from rfl, ai0, ag7, gE]
 refine fD HW fr16 (f := fun id => a9.sl id 0 2 (some 2) 2) fun h17 r17 p17 fr17 => ?_
 have o17 : Old h16 h17 ((n14 + 1) + 1) := fun j hj => p17 j (by omega)
 have s17 := s16.old (n' := (((n14 + 1) + 1) + 1)) (by omega) o17
 have ri17 := ri16.aS (h' := h17) fun j q1 q2 => o17 j (by omega)
 have B115_17 := B115_16.aS (h' := h17) fun j q => o17 j (by injection q with q; omega)
 have B116_17 := B116_16.aS (h' := h17) fun j q => o17 j (by injection q with q; omega)
 have lit := Q6 (a := n14) (b := (((n14 + 1) + 1) + 1)) r17 B115_17 B116_17 (by omega) (by omega) (by omega)
 simp only [hkr, Int.reduceNeg, gE]
 refine dA (f18 u _ _ _ _ _ _ h17 (((n14 + 1) + 1) + 1) (by decide) ri17 lit) ?_
 simp only [fgr, hkr, aT, Int.reduceNeg, aE2, gE]
 have a17 : j6 h17 (((n14 + 1) + 1) + 1) (((n14 + 1) + 1) + 1) X5 .aV .aV := ⟨wB, qM, rfl, by decide, by decide⟩
 refine aJ fr17 (f19 s17 X5 _ _ (((n14 + 1) + 1) + 1) (((n14 + 1) + 1) + 1) a17 (Nat.le_refl _) (fun j q1 q2 => nW j (by omega)) (by decide) (by decide) (by decide) fr17) fun v18 h18 n18 hn18 fr18 ⟨e18, o18, s18⟩ => ?_
 rw [ap6] at e18 s18
 subst e18
 simp only [Option.getD_none] at s18
 simp only [fgr, hkr, Int.reduceNeg, mR, gE]
 refine aJ fr18 (f16 2 h18 n18 fr18) fun v19 h19 n19 hn19 fr19 ⟨e19, o19⟩ => ?_
 subst e19
 have s19 := s18.old (n' := n19) (by omega) o19
 simp only [Int.reduceNeg, ai2, DY (bD (v := nw 2 2 0 []) rfl rfl), gE]
 refine fD eB fr19 (f := fun id => a9.sl id 0 1 (some 1) 70) fun h20 r20 p20 fr20 => ?_
 have o20 : Old h19 h20 n19 := fun j hj => p20 j (by omega)
 have s20 := s19.old (n' := (n19 + 1)) (by omega) o20
 simp only [hkr, Int.reduceNeg, ah7, gE]
 have w20 : VL h20 n18 (n19 + 1) (.sl n19 0 1 (some 1) 70) [nw 2 2 0 []] := uC r20 rfl ((Vs.nil h20 _).vN .aV (vB _ _ _ _) fun i q => by cases q) (by omega) (by omega)
 have a20 : j6 h20 n18 (n19 + 1) X4 (.sl n19 0 1 (some 1) 70) .aV := ⟨w20, qM, rfl, by decide, by decide⟩
 refine aJ fr20 (f19 s20 X4 _ _ n18 (n19 + 1) a20 (Nat.le_refl _) (fun j q1 q2 => nW j (by omega)) (by decide) (by decide) (by decide) fr20) fun v21 h21 n21 hn21 fr21 ⟨e21, o21, s21⟩ => ?_
 rw [ap7] at e21 s21
 subst e21
 simp only [Option.getD_none] at s21
 simp only [fgr, hkr, Int.reduceNeg, mR, gE]
 refine aJ fr21 (f16 1 h21 n21 fr21) fun v22 h22 n22 hn22 fr22 ⟨e22, o22⟩ => ?_
 subst e22
 have s22 := s21.old (n' := n22) (by omega) o22
 simp only [Int.reduceNeg, SV, RU (iY (s := ⟨z0, 1, z32⟩) ⟨rfl, rfl⟩), gE]
 refine fD vL fr22 (f := fun id => a9.sl id 0 1 (some 1) 65) fun h23 r23 p23 fr23 => ?_
 have o23 : Old h22 h23 n22 := fun j hj => p23 j (by omega)
 have s23 := s22.old (n' := (n22 + 1)) (by omega) o23
 simp only [hkr, Int.reduceNeg, aE0, gE]
 have w23 : SL h23 n21 (n22 + 1) (.sl n22 0 1 (some 1) 65) NN.cG := AV r23 rfl rfl (fun j hj => by
  have : j = 0 := by have : NN.cG.length = 1 := rfl; omega
  subst this
  exact ⟨rfl, rfl, rfl⟩) (by omega) (by omega)
 have a23 : j6 h23 n21 (n22 + 1) NN .aV (.sl n22 0 1 (some 1) 65) := ⟨wB, w23, rfl, by decide, by decide⟩
 refine aJ fr23 (f19 s23 NN _ _ n21 (n22 + 1) a23 (Nat.le_refl _) (fun j q1 q2 => nW j (by omega)) (by decide) (by decide) (by decide) fr23) fun v24 h24 n24 hn24 fr24 ⟨e24, o24, s24⟩ => ?_
 rw [ap8] at e24 s24
 subst e24
 simp only [Option.getD_none] at s24
 simp only [fgr, hkr, Int.reduceNeg, mR, gE]
 refine aJ fr24 (f16 7 h24 n24 fr24) fun v25 h25 n25 hn25 fr25 ⟨e25, o25⟩ => ?_
 subst e25
 have s25 := s24.old (n' := n25) (by omega) o25
 simp only [Int.reduceNeg, PA, DY (bD (v := nw 7 2 2100000000000000 []) rfl rfl), gE]
 refine fD eB fr25 (f := fun id => a9.sl id 0 1 (some 1) 70) fun h26 r26 p26 fr26 => ?_
 have o26 : Old h25 h26 n25 := fun j hj => p26 j (by omega)
 have s26 := s25.old (n' := (n25 + 1)) (by omega) o26
 simp only [hkr, Int.reduceNeg, ah7, gE]
 have w26 : VL h26 n24 (n25 + 1) (.sl n25 0 1 (some 1) 70) [nw 7 2 2100000000000000 []] := uC r26 rfl ((Vs.nil h26 _).vN .aV (vB _ _ _ _) fun i q => by cases q) (by omega) (by omega)
 have a26 : j6 h26 n24 (n25 + 1) X3 (.sl n25 0 1 (some 1) 70) .aV := ⟨w26, qM, rfl, by decide, by decide⟩
 refine aJ fr26 (f19 s26 X3 _ _ n24 (n25 + 1) a26 (Nat.le_refl _) (fun j q1 q2 => nW j (by omega)) (by decide) (by decide) (by decide) fr26) fun v27 h27 n27 hn27 fr27 ⟨e27, o27, s27⟩ => ?_
 rw [ap9] at e27 s27
 subst e27
 simp only [Option.getD_none] at s27
 simp only [fgr, hkr, Int.reduceNeg, mR, ah9, gE]
 have a27 : j6 h27 n27 n27 NQ .aV .aV := ⟨wB, qM, rfl, by decide, by decide⟩
 refine aJ fr27 (f19 s27 NQ _ _ n27 n27 a27 (Nat.le_refl _) (fun j q1 q2 => nW j (by omega)) (by decide) (by decide) (by decide) fr27) fun v28 h28 n28 hn28 fr28 ⟨e28, o28, s28⟩ => ?_
 rw [aF2] at e28 s28
 subst e28
 simp only [Option.getD_none] at s28
 simp only [fgr, hkr, Int.reduceNeg, mR, ah8, gE]
 have a28 : j6 h28 n28 n28 NP .aV .aV := ⟨wB, qM, rfl, by decide, by decide⟩
 refine aJ fr28 (f19 s28 NP _ _ n28 n28 a28 (Nat.le_refl _) (fun j q1 q2 => nW j (by omega)) (by decide) (by decide) (by decide) fr28) fun v29 h29 n29 hn29 fr29 ⟨e29, o29, s29⟩ => ?_
 rw [aF1] at e29 s29
 subst e29
 simp only [Option.getD_some] at s29
 simp only [fgr, hkr, bor, aT, Int.reduceNeg, mR, gE]
 rw [aI (UG s29 (by decide))]
 simp only [fgr, hkr, bor, aT, Int.reduceNeg, show (((NM.length : Nat) : Int) - 1) = 2 from rfl, gE]
 refine aJ fr29 (f16 1 h29 n29 fr29) fun v30 h30 n30 hn30 fr30 ⟨e30, o30⟩ => ?_
 subst e30
 have s30 := s29.old (n' := n30) (by omega) o30
 simp only [hkr, Int.reduceNeg, PA, gE]
 refine aJ fr30 (f16 8 h30 n30 fr30) fun v31 h31 n31 hn31 fr31 ⟨e31, o31⟩ => ?_
 subst e31
 have s31 := s30.old (n' := n31) (by omega) o31
 simp only [Int.reduceNeg, PA, OE (bD (v := nw 1 3 5 []) rfl rfl) (bD (v := nw 8 3 2099999999999940 []) rfl rfl), gE]
 refine fD eB fr31 (f := fun id => a9.sl id 0 2 (some 2) 70) fun h32 r32 p32 fr32 => ?_
 have o32 : Old h31 h32 n31 := fun j hj => p32 j (by omega)
 have s32 := s31.old (n' := (n31 + 1)) (by omega) o32
 simp only [hkr, Int.reduceNeg, gE]
 have q32 : VL h32 n29 (n31 + 1) (.sl n31 0 2 (some 2) 70) vF.made := uC r32 rfl (((Vs.nil h32 _).vN .aV (vB 1 3 5 []) fun i q => by cases q).vN .aV (vB 8 3 2099999999999940 []) fun i q => by cases q) (by omega) (by omega)
 refine aJ fr32 (f16 8 h32 (n31 + 1) fr32) fun v33 h33 n33 hn33 fr33 ⟨e33, o33⟩ => ?_
 subst e33
 have s33 := s32.old (n' := n33) (by omega) o33
 have q33 := (q32.aS (h' := h33) fun j q1 q2 => o33 j (by omega)).wide (c := n29) (d := n33) (by omega) (by omega)
 simp only [Int.reduceNeg, ai4, ah5, RU (iY (s := ⟨z0, 8, hb_ 4⟩) ⟨rfl, rfl⟩), gE]
 refine fD vL fr33 (f := fun id => a9.sl id 0 1 (some 1) 65) fun h34 r34 p34 fr34 => ?_
 have o34 : Old h33 h34 n33 := fun j hj => p34 j (by omega)
 have s34 := s33.old (n' := (n33 + 1)) (by omega) o34
 simp only [hkr, Int.reduceNeg, ah6, gE]
 have q34 := (q33.aS (h' := h34) fun j q1 q2 => o34 j (by omega)).wide (c := n29) (d := (n33 + 1)) (by omega) (by omega)
 have w34 : SL h34 n29 (n33 + 1) (.sl n33 0 1 (some 1) 65) vF.cG := AV r34 rfl rfl (fun j hj => by
  have : j = 0 := by have : vF.cG.length = 1 := rfl; omega
  subst this
  exact ⟨rfl, rfl, rfl⟩) (by omega) (by omega)
 have a34 : j6 h34 n29 (n33 + 1) vF (.sl n31 0 2 (some 2) 70) (.sl n33 0 1 (some 1) 65) := ⟨q34, w34, rfl, by decide, by decide⟩
 refine aJ fr34 (f19 s34 vF _ _ n29 (n33 + 1) a34 (Nat.le_refl _) (fun j q1 q2 => nW j (by omega)) (by decide) (by decide) (by decide) fr34) fun v35 h35 n35 hn35 fr35 ⟨e35, o35, s35⟩ => ?_
 rw [aF0] at e35 s35
 subst e35
 simp only [Option.getD_some] at s35
 simp only [fgr, hkr, Int.reduceNeg, mR, gE]
 refine aJ fr35 (f16 1 h35 n35 fr35) fun v36 h36 n36 hn36 fr36 ⟨e36, o36⟩ => ?_
 subst e36
 have s36 := s35.old (n' := n36) (by omega) o36
 simp only [hkr, Int.reduceNeg, gE]
 refine aJ fr36 (f21 s36 z0 1 3 rfl (by rw [T4l]; decide) (by rw [L4l]; decide) fr36) fun v37 h37 n37 hn37 fr37 ⟨o37, uta, e37, ta37⟩ => ?_
 subst e37
 have s37 := s36.old (n' := n37) (by omega) o37
 rw [tr1] at ta37
 simp only [fgr, hkr, Int.reduceNeg, i33, gE]
 refine aJ fr37 (f16 1 h37 n37 fr37) fun v38 h38 n38 hn38 fr38 ⟨e38, o38⟩ => ?_
 subst e38
 have s38 := s37.old (n' := n38) (by omega) o38
 have ta38 := ta37.aS (h' := h38) fun j q1 q2 => o38 j (by omega)
 simp only [hkr, Int.reduceNeg, gE]
 refine aJ fr38 (f21 s38 z0 1 0 rfl (by rw [T4l]; decide) (by rw [L4l]; decide) fr38) fun v39 h39 n39 hn39 fr39 ⟨o39, utb, e39, tb39⟩ => ?_
 subst e39
 have s39 := s38.old (n' := n39) (by omega) o39
 have ta39 := ta38.aS (h' := h39) fun j q1 q2 => o39 j (by omega)
 rw [tr2] at tb39
 simp only [fgr, hkr, Int.reduceNeg, i30, gE]
 refine aJ fr39 (f16 8 h39 n39 fr39) fun v40 h40 n40 hn40 fr40 ⟨e40, o40⟩ => ?_
 subst e40
 have s40 := s39.old (n' := n40) (by omega) o40
 have ta40 := ta39.aS (h' := h40) fun j q1 q2 => o40 j (by omega)
 have tb40 := tb39.aS (h' := h40) fun j q1 q2 => o40 j (by omega)
 simp only [hkr, Int.reduceNeg, gE]
 refine aJ fr40 (f21 s40 z0 8 3 rfl (by rw [T4l]; decide) (by rw [L4l]; decide) fr40) fun v41 h41 n41 hn41 fr41 ⟨o41, utc, e41, tc41⟩ => ?_
 subst e41
 have s41 := s40.old (n' := n41) (by omega) o41
 have ta41 := ta40.aS (h' := h41) fun j q1 q2 => o41 j (by omega)
 have tb41 := tb40.aS (h' := h41) fun j q1 q2 => o41 j (by omega)
 rw [tr3] at tc41
 simp only [fgr, builtin, bor, aT, Int.reduceNeg, i33, gE]
 obtain ⟨_, xa0⟩ := ta41.at_ (i := 0) (by decide)
 obtain ⟨_, xa1⟩ := ta41.at_ (i := 1) (by decide)
 obtain ⟨_, xb0⟩ := tb41.at_ (i := 0) (by decide)
 obtain ⟨_, xc0⟩ := tc41.at_ (i := 0) (by decide)
 have mva := fun m => xa0.mv 0 m
 have mva1 := fun m => xa1.mv 70 m
 have mvb := fun m => xb0.mv 0 m
 have mvc := fun m => xc0.mv 0 m
 have g1 : Rd (load env 3 (dB 37 uta)) h41 n41 (rid uta) (.int .i64 1) := xa0.cV _
 have g2 : Rd (load env 25 (dB 38 uta)) h41 n41 (rid uta) (.agg ((hb_ 9).map u8)) := (ta41.by_ (i := 0) (by decide) _).2
 have g3 : Rd (load env 3 (dB 103 uta)) h41 n41 (rid uta) (.int .i64 3) := xa1.made _
 have g4 : Rd (load env 3 (dB 37 utb)) h41 n41 (rid utb) (.int .i64 0) := xb0.cV _
 have g5 : Rd (load env 3 (dB 33 utc)) h41 n41 (rid utc) (.int .i64 3) := xc0.made _
 have g6 : Rd (load env 3 (dB 37 utc)) h41 n41 (rid utc) (.int .i64 3) := xc0.cV _
 simp only [bor, aT, Nat.reduceAdd, Int.cast_ofNat_Int, Int.reduceNeg, ta41.len, Nat.reduceAdd, gE]
 rw [aI (ta41.ix (i := 0) (z := 0) (k := 0) (by decide) rfl rfl)]
 simp only [tyr, Int.reduceNeg, mva, gE]
 rw [aI g1]
 simp only [bor, aT, Int.reduceNeg, gE]
 rw [aI (ta41.ix (i := 0) (z := 0) (k := 0) (by decide) rfl rfl)]
 simp only [tyr, Int.reduceNeg, mva, gE]
 rw [aI g2]
 simp only [bor, aT, Int.reduceNeg, SW, HJ (hb_ 9) (hb_ 9) rfl rfl, gE]
 rw [aI (ta41.ix (i := 1) (z := 1) (k := 70) (by decide) rfl rfl)]
 simp only [tyr, Nat.reduceAdd, Int.reduceNeg, mva1, Nat.reduceAdd, gE]
 rw [aI g3]
 simp only [builtin, bor, aT, Int.cast_ofNat_Int, Int.reduceNeg, tb41.len, gE]
 rw [aI (tb41.ix (i := 0) (z := 0) (k := 0) (by decide) rfl rfl)]
 simp only [tyr, Int.reduceNeg, mvb, gE]
 rw [aI g4]
 simp only [builtin, bor, aT, Int.cast_ofNat_Int, Int.reduceNeg, tc41.len, gE]
 rw [aI (tc41.ix (i := 0) (z := 0) (k := 0) (by decide) rfl rfl)]
 simp only [tyr, Int.reduceNeg, mvc, gE]
 rw [aI g5]
 simp only [bor, aT, Int.reduceNeg, gE]
 rw [aI (tc41.ix (i := 0) (z := 0) (k := 0) (by decide) rfl rfl)]
 simp only [tyr, Int.reduceNeg, mvc, gE]
 rw [aI g6]
 simp only [fgr, hkr, bor, aT, Int.reduceNeg, gE]
 refine aJ fr41 (HE s41 4 (by rw [T4l]; decide) (by rw [T4l]; decide) (by rw [L4l]; decide) fr41) fun v42 h42 n42 hn42 fr42 ⟨e42, o42, s42⟩ => ?_
 subst e42
 simp only [hkr, Int.reduceNeg, gE]
 refine aJ fr42 (HE s42 (-2) (by rw [T4l]; decide) (by rw [T4l]; decide) (by rw [L4l]; decide) fr42) fun v43 h43 n43 hn43 fr43 ⟨e43, o43, s43⟩ => ?_
 subst e43
 simp only [fgr, hkr, Int.reduceNeg, gE]
 refine aJ fr43 (X9 s43 0 (by decide) (by rw [T4l]; decide) (by rw [T4l]; decide) (by rw [L4l]; decide) fr43) fun v44 h44 n44 hn44 fr44 ⟨e44, o44, s44⟩ => ?_
 subst e44
 replace s44 : St _ h44 n44 s J4 F9 := s44
 simp only [fgr, hkr, Int.reduceNeg, gE]
 refine aJ fr44 (f17 s44 1 0 (by rw [T5l]; decide) (by rw [L5l]; decide) SB fr44) fun v45 h45 n45 hn45 fr45 ⟨o45, ux, e45, rx45⟩ => ?_
 subst e45
 have s45 := s44.old (n' := n45) (by omega) o45
 rw [rv5] at rx45
 simp only [fgr, hkr, Int.reduceNeg, i50, gE]
 refine aJ fr45 (f23 s45 0 (by rw [T5l]; decide) fr45) fun v46 h46 n46 hn46 fr46 ⟨e46, o46⟩ => ?_
 subst e46
 have s46 := s45.old (n' := n46) (by omega) o46
 have rx46 := rx45.aS (h' := h46) fun j q1 q2 => o46 j (by omega)
 simp only [Int.reduceNeg, i50, bk5, gE]
 rw [cD kH rfl]
 simp only [cel, Int.reduceNeg, gE]
 refine dM kH rfl rfl (by decide) fr46 fun h47 r47 p47 fr47 => ?_
 have o47 : Old h46 h47 n46 := fun j hj => p47 j (by omega)
 have s47 := s46.old (n' := (n46 + 1)) (by omega) o47
 have rx47 := rx46.aS (h' := h47) fun j q1 q2 => o47 j (by omega)
 replace r47 : Row h47 n46 ((hb_ 1).map u8) := r47
 obtain ⟨k1, k2, k3⟩ := YP rx47
 simp only [fgr, hkr, bor, aT, Int.reduceNeg, gE]
 rw [aI (UG s47 (by rw [T5l]; decide))]
 simp only [builtin, bor, aT, Int.cast_ofNat_Int, Int.reduceNeg, show (((F9.length : Nat) : Int) - 1) = 0 from by rw [T5l]; rfl, rx47.len, gE]
 rw [aI (k1 _ _)]
 simp only [tyr, Int.reduceNeg, k2, gE]
 rw [aI (k3 _)]
 simp only [bor, aT, Int.reduceNeg, gE]
 rw [aI (r47.gT kH rfl rfl)]
 simp only [hkr, bor, aT, Int.reduceNeg, SY, HJ (hb_ 1) (hb_ 1) rfl rfl, gE]
 refine aJ fr47 (f24 s47 (by rw [L5l]; decide) fr47) fun v48 h48 n48 hn48 fr48 ⟨ev48, o48⟩ => ?_
 have s48 := s47.old (n' := n48) (by omega) o48
 have rx48 := rx47.aS (h' := h48) fun j q1 q2 => o48 j (by omega)
 simp only [fgr, hkr, builtin, bor, aT, Int.cast_ofNat_Int, Int.reduceNeg, ev48.len, L5l, gE]
 refine aJ fr48 (f17 s48 (-5) 0 (by rw [T5l]; decide) (by rw [L5l]; decide) SB fr48) fun v49 h49 n49 hn49 fr49 ⟨o49, uy, e49, ry49⟩ => ?_
 subst e49
 have s49 := s48.old (n' := n49) (by omega) o49
 rw [rv6] at ry49
 have ryl := fun ts => ry49.len (ts := ts)
 simp only [fgr, Int.reduceNeg, i50, gE]
 rw [cD HV rfl]
 obtain ⟨h50, hh50⟩ : ∃ H, H = upd h49 n49 (some (.row (.l [.dP, .aV]) 59)) := ⟨_, rfl⟩
 have g50 : h50 n49 = some (.row (.l [.dP, .aV]) 59) := by rw [hh50, aP]
 have fr50 : bG h50 (n49 + 1) := by rw [hh50]; exact fr49.new
 show Ops _ _ _ _ _ _ _ _ (upd h49 n49 (some (.row (.l [.dP, .aV]) 59))) _
 rw [← hh50]
 clear hh50
 have z50 : NoS h50 (n49 + 1) (.ptr n49 0) := .inr ⟨n49, .aV, rfl, by omega, ⟨59, g50⟩⟩
 simp only [fgr, hkr, Int.reduceNeg, gE]
 refine aJ fr50 (af4 .dP 0 h50 (n49 + 1) (.inl rfl) fr50) fun v51 h51 n51 hn51 fr51 ⟨e51, o51⟩ => ?_
 subst e51
 have z51 := z50.old (n' := n51) (by omega) o51
 simp only [Int.reduceNeg, gE]
 rw [cD gJ rfl]
 simp only [cel, Int.reduceNeg, gE]
 refine dM gJ rfl (bV fA) (eM _) fr51 fun h52 r52 p52 fr52 => ?_
 have o52 : Old h51 h52 n51 := fun j hj => p52 j (by omega)
 have z52 := z51.old (n' := (n51 + 1)) (by omega) o52
 simp only [fgr, hkr, Int.reduceNeg, gE]
 refine aJ fr52 (aC9 (.ptr n49 0) 1 0 h52 (n51 + 1) z52 fr52) fun v53 h53 n53 hn53 fr53 ⟨e53, o53⟩ => ?_
 subst e53
 have z53 := z52.old (n' := n53) (by omega) o53
 simp only [fgr, hkr, Int.reduceNeg, gE]
 refine aJ fr53 (f26 (fun _ => False) h53 n53 fr53 (fun j w => w.elim)) fun v54 h54 n54 hn54 fr54 ⟨t, e54, ht, st54, o54⟩ => ?_
 subst e54
 have z54 := z53.old (n' := n54) (by omega) o54
 have tn := st54.sn
 simp only [hkr, Int.reduceNeg, gE]
 refine aJ fr54 (f16 1 h54 n54 fr54) fun v55 h55 n55 hn55 fr55 ⟨e55, o55⟩ => ?_
 subst e55
 have z55 := z54.old (n' := n55) (by omega) o55
 have st55 := st54.old (n' := n55) (by omega) o55
 simp only [Int.reduceNeg, ai3, DY (bD (v := nw 1 0 0 []) rfl rfl), gE]
 refine fD eB fr55 (f := fun id => a9.sl id 0 1 (some 1) 70) fun h56 r56 p56 fr56 => ?_
 have o56 : Old h55 h56 n55 := fun j hj => p56 j (by omega)
 have z56 := z55.old (n' := (n55 + 1)) (by omega) o56
 have st56 := st55.old (n' := (n55 + 1)) (by omega) o56
 simp only [hkr, Int.reduceNeg, gE]
 have q56 : VL h56 n54 (n55 + 1) (.sl n55 0 1 (some 1) 70) [nw 1 0 0 []] := uC r56 rfl ((Vs.nil h56 _).vN .aV (vB _ _ _ _) fun i q => by cases q) (by omega) (by omega)
 refine aJ fr56 (f16 1 h56 (n55 + 1) fr56) fun v57 h57 n57 hn57 fr57 ⟨e57, o57⟩ => ?_
 subst e57
 have z57 := z56.old (n' := n57) (by omega) o57
 have st57 := st56.old (n' := n57) (by omega) o57
 have q57 := (q56.aS (h' := h57) fun j q1 q2 => o57 j (by omega)).wide (c := n54) (d := n57) (by omega) (by omega)
 simp only [Int.reduceNeg, SV, RU (iY (s := ⟨z0, 1, z32⟩) ⟨rfl, rfl⟩), gE]
 refine fD vL fr57 (f := fun id => a9.sl id 0 1 (some 1) 65) fun h58 r58 p58 fr58 => ?_
 have o58 : Old h57 h58 n57 := fun j hj => p58 j (by omega)
 have z58 := z57.old (n' := (n57 + 1)) (by omega) o58
 have st58 := st57.old (n' := (n57 + 1)) (by omega) o58
 simp only [hkr, Int.reduceNeg, aD9, gE]
 have q58 := (q57.aS (h' := h58) fun j q1 q2 => o58 j (by omega)).wide (c := n54) (d := (n57 + 1)) (by omega) (by omega)
 have w58 : SL h58 n54 (n57 + 1) (.sl n57 0 1 (some 1) 65) DJ.cG := AV r58 rfl rfl (fun j hj => by
  have : j = 0 := by have : DJ.cG.length = 1 := rfl; omega
  subst this
  exact ⟨rfl, rfl, rfl⟩) (by omega) (by omega)
 have a58 : j6 h58 n54 (n57 + 1) DJ (.sl n55 0 1 (some 1) 70) (.sl n57 0 1 (some 1) 65) := ⟨q58, w58, rfl, by decide, by decide⟩
 refine aJ fr58 (f19 st58 DJ _ _ n54 (n57 + 1) a58 (Nat.le_refl _) (fun j q1 q2 w => w.elim id fun w => by omega) (by decide) (by decide) (by decide) fr58) fun v59 h59 n59 hn59 fr59 ⟨e59, o59, _⟩ => ?_
 rw [aE9] at e59
 subst e59
 have z59 : NoS h59 n59 (.ptr n49 0) := by
  rcases z58 with q | ⟨y, lv, e, hy, r⟩
  ·cases q
  ·injection e with e _; subst e; exact .inr ⟨_, lv, rfl, by omega, r.aS (o59 _ (by omega) (by omega))⟩
 simp only [fgr, hkr, Int.reduceNeg, mR, gE]
 refine aJ fr59 (f27 h59 n59 fr59) fun v60 h60 n60 hn60 fr60 ⟨e60, o60⟩ => ?_
 subst e60
 have z60 := z59.old (n' := n60) (by omega) o60
 simp only [hkr, builtin, bor, aT, Int.cast_ofNat_Int, Int.reduceNeg, aE1, ryl, gE]
 refine aJ fr60 (aC8 .dP ⟨0, z32, [], [], 0, 0⟩ .aV .aV h60 n60 (.inl rfl) rfl ⟨rfl, rfl, rfl⟩ ⟨rfl, rfl, rfl⟩ fr60) fun v61 h61 n61 hn61 fr61 ⟨e61, o61⟩ => ?_
 subst e61
 have z61 := z60.old (n' := n61) (by omega) o61
 simp only [hkr, bor, aT, Int.reduceNeg, gE]
 refine dA (aC7 (.ptr n49 0) (-1) h61 n61 z61) ?_
 simp only [hkr, bor, aT, Int.reduceNeg, Ins.yW, gE]
 refine dA (aC6 (.ptr n49 0) h61 n61 z61) ?_
 simp only [hkr, builtin, blr, bor, aT, Int.reduceNeg, gE]
 refine dA (aC5 .dP h61 n61 (.inl rfl)) ?_
 simp only [tyr, hkr, bor, aR, dE, aT, aU, equal, cL, bT, bU, Int.reduceNeg, gE]
 refine aJ fr61 (f26 (fun _ => False) h61 n61 fr61 (fun j w => w.elim)) fun v62 h62 n62 hn62 fr62 ⟨t2, e62, ht2, sx62, o62⟩ => ?_
 subst e62
 have z62 := z61.old (n' := n62) (by omega) o62
 simp only [hkr, Int.reduceNeg, gE]
 rw [aI (UG sx62 (by decide))]
 simp only [fgr, bor, aT, Int.cast_ofNat_Int, Int.reduceSub, Int.reduceNeg, gE]
end Go.Am.Ytlgebaofkolkoaa
