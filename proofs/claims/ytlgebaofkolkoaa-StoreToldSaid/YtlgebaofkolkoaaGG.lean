/- What the statement reaches, gone through; and the abstract machine that goes through it. -/
import Derived.Test.YtlgebaofkolkoaaGF
set_option linter.unusedSimpArgs false
set_option linter.unusedVariables false
set_option linter.defProp false
set_option maxRecDepth 10000
namespace Go.Am.Ytlgebaofkolkoaa
open Go Go.Am Go.Proofs
theorem f21 {W : Nat → Prop} {h : Hp} {n s : Nat} {L : List Ver} {I : List Inf} (q : St W h n s L I) (hash : List UInt8) (pn z : Int) (hl : hash.length = 32) (hI : I.length ≤ 900000) (hL : L.length ≤ 900000) (hf : bO h n) :
  Wp (bD env (evalW env) 21 [.ptr s 0, .agg (aY hash pn), .int .i64 z]) h n fun v' h' n' => Old h h' n ∧ ∃ u, v' = .tup [u, .int .i64 (rW (kG I z))] ∧ VL h' n n' u (lA L I hash pn z) := by
 refine bL ff21 fi21 ?_
 simp only [VI, Try.f21, Option.getD_some, List.replicate, aC, execOp, opd, nth, ended, aT, aU, Nat.reduceAdd, Nat.reduceSub, gL, gI]
 refine dA (v := .agg (aY hash pn)) iK rfl hf fun H1 r1 o1 f1 => ?_
 replace r1 : Row H1 n (aY hash pn) := r1
 have O1 : Old h H1 n := fun j hj => o1 j (by omega)
 have q1 := q.old (n' := n + 1) (by omega) O1
 simp only [aC, fgr, hkr, execOp, opd, bG, ofValue, aD, put, nth, aB, aL, aE, gL]
 refine bF f1 (f25 q1 z (by omega) f1) fun v3 h3 n3 hn3 f3 ⟨e3, ob3, o3⟩ => ?_
 subst e3
 simp only [aC, execOp, opd, aD, put, nth, extract, aZ, gL]
 rw [cD iI rfl]
 simp only [aC, execOp, opd, aD, put, nth, cel]
 refine dQ (v := .agg (bX ((kG I z).getD gP))) iI rfl (cE ob3) (fL _) f3 fun H4 r4 o4 f4 => ?_
 have OO : ∀ j, j < n + 1 → H4 j = H1 j := fun j hj => by rw [o4 j (by omega), o3 j hj]
 have O4 : Old h H4 n := fun j hj => by rw [OO j (by omega), O1 j hj]
 have q4 := q.old (n' := n3 + 1) (by omega) O4
 cases hi : kG I z with
 | none =>
  have hc : lA L I hash pn z = [] := by unfold lA; rw [hi]
  rw [hc]
  simp only [aC, fgr, execOp, opd, ofValue, aD, put, nth, aB, bor, aJ, aK, intOp, Int.reduceEq, rW, gB, gI]
  exact ⟨O4, .aV, rfl, [], .nil, Vs.nil _ _, fun j w => by cases w⟩
 | some i =>
  have hc : lA L I hash pn z = trV z (vV L hash pn) := by unfold lA; rw [hi]
  rw [hc]
  obtain ⟨x, lv, rs, ix, il, sa, sb, sc⟩ := q4
  have r14 : Row H4 n (aY hash pn) := r1.aX (OO n (by omega))
  simp only [aC, fgr, execOp, opd, ofValue, aD, put, nth, aB, bor, aJ, aK, intOp, bne_self_eq_false, rW, gB]
  refine cG ⟨rfl, ?_⟩
  simp only [aF, aI, aC, tyr, execOp, opd, aD, put, nth, und, sizeOf, nilCheck, aZ, aS, fieldAddr, Nat.reduceAdd, gL, gI]
  rw [bP (rs.one (off := 0) rfl qA rfl)]
  simp only [aF, execOp, opd, aD, put, nth, Nat.reduceAdd]
  have hld : Rd (load env 28 (.ptr n 0)) H4 (n3 + 1) [n] (.agg (aY hash pn)) := Row.whole r14 iK rfl (cA hl)
  rw [bP hld]
  simp only [aF, hkr, execOp, opd, bG, aD, put, nth, aL, aE, Nat.reduceAdd, gL]
  refine eF f4 (f49k hash pn hl ix.k hL f4) fun v5 h5 n5 rr5 ww5 hn5 f5 ⟨l5, o5⟩ => ?_
  simp only [bY, aF, aI, aC, fgr, execOp, opd, bG, ofValue, aD, put, nth, aB, aL, builtin, dH, Nat.reduceAdd, l5.len]
  refine ⟨(by (try simp (disch := first | assumption | omega) only [dF, List.all_cons, List.all_nil, gB, gF]); repeat' (first | rfl | exact (Bool.or_eq_true _ _).mpr (.inr rfl) | refine (Bool.and_eq_true _ _).mpr ⟨?_, ?_⟩)), ?_⟩
  have hlen : (vV L hash pn).length ≤ 900000 := Nat.le_trans (List.length_filter_le _ _) hL
  refine TV _ _ v5 (n3 + 1) n5 z (vV L hash pn) h5 hlen l5 hn5 ?_ (vV L hash pn).length 0 h5 n5 .aV [] _ _ _ _ _ _ _ _ (by omega) .nil (Vs.nil _ _) (fun j w => by cases w) (Nat.le_refl _) f5 (Old.refl _ _)
  intro h6 n6 acc cells x0 x1 x4 x9 x12 x20 x30 x36 l6 v6 i6 hn6 f6 o6
  simp only [aC, fgr, execOp, opd, ofValue, aD, put, nth, aB, gB]
  exact ⟨fun j hj => by rw [o6 j (by omega), o5 j (by omega), O4 j hj], acc, rfl, cells, l6, v6.mono (fun j w => ⟨by omega, w.2.1, w.2.2⟩) (fun j w => rfl), fun j w => ⟨by have := i6 j w; omega, l6.live f6 w⟩⟩
theorem k48 : Try.prog.cellsOf 48 = 65 := by kernel_rfl
theorem k43 : Try.prog.cellsOf 43 = 1 := by kernel_rfl
theorem k44 : Try.prog.cellsOf 44 = 1 := by kernel_rfl
theorem k46 : Try.prog.cellsOf 46 = 37 := by kernel_rfl
theorem U4 : Try.prog.cellsOf 105 = 40 := by kernel_rfl
theorem PH {vs : List a9} (ha : Arg Try.prog 48 vs) : ∃ s : Spd, vs = fB s ∧ s.Ok ∧ 0 ≤ s.pn := by
 obtain ⟨hl, he⟩ := ha.lC Try.underlying48
 rw [k48] at hl
 have q0 : Arg Try.prog 28 ((vs.drop 0).take (Try.prog.cellsOf 28)) := he 0 _ rfl
 have q1 : Arg Try.prog 25 ((vs.drop 33).take (Try.prog.cellsOf 25)) := he 1 _ rfl
 rw [k28] at q0
 rw [k25] at q1
 obtain ⟨hash, pn, e0, hh, hp⟩ := zA q0
 obtain ⟨by_, e1, hby⟩ := sN q1
 refine ⟨⟨hash, pn, by_⟩, ?_, ⟨hh, hby⟩, hp⟩
 have c0 := mF vs 0 33
 rw [List.drop_zero] at c0
 rw [List.drop_zero] at e0
 rw [e0, mF vs (0 + 33) 32, e1, List.drop_eq_nil_of_le (show vs.length ≤ 0 + 33 + 32 by omega)] at c0
 rw [c0]
 simp [fB]
structure CP (a : a9) (vs : List Ver) (xs : List a9) : Prop where
 rd : ∀ h, Rds h 70 a vs.length xs
 id : bB a = none
 len : vs.length ≤ maxLen
 at_ : ∀ j (hj : j < vs.length), ∃ sv, (xs.drop (j * 70)).take 70 = aO vs[j] sv ∧ EG vs[j] sv
theorem WE {a : a9} (ha : Arg Try.prog 43 [a]) : ∃ vs xs, CP a vs xs := by
 rcases ha.pJ Try.underlying43 (by rw [k31]; omega) with h | ⟨f, len, h, hl, hx⟩
 ·injection h with h; subst h
  exact ⟨[], [], fun h => .aV, rfl, Nat.zero_le _, fun j hj => by simp at hj⟩
 ·injection h with h
  subst h
  rw [k31] at hx ⊢
  have each : ∀ i, ∃ p : Ver × a9, i < len → cut f (i * 70) 70 = aO p.1 p.2 ∧ EG p.1 p.2 := fun i => by
   by_cases hi : i < len
   ·obtain ⟨v, sv, e, hv⟩ := PG (hx i hi)
    exact ⟨(v, sv), fun _ => ⟨e, hv⟩⟩
   ·exact ⟨(noV, .aV), fun q => absurd q hi⟩
  obtain ⟨b, hb⟩ := Classical.axiomOfChoice each
  refine ⟨(List.range len).map fun i => (b i).1, cut f 0 (len * 70), fun h => ?_, rfl, by simpa using hl, fun j hj => ?_⟩
  ·have := Rds.isl (h := h) (sz := 70) f 0 len (cut f 0 (len * 70)) (by rw [AE]) (fun j hj => by rw [sI])
   simpa using this
  ·simp only [List.length_map, List.length_range] at hj
   simp only [List.getElem_map, List.getElem_range]
   rw [AD _ _ _ _ _ (by omega), Nat.zero_add]
   exact ⟨(b j).2, hb j hj⟩
structure FY (a : a9) (ss : List Spd) (xs : List a9) : Prop where
 rd : ∀ h, Rds h 65 a ss.length xs
 id : bB a = none
 len : ss.length ≤ maxLen
 at_ : ∀ j (hj : j < ss.length), (xs.drop (j * 65)).take 65 = fB ss[j] ∧ ss[j].Ok ∧ 0 ≤ ss[j].pn
theorem WH {a : a9} (ha : Arg Try.prog 44 [a]) : ∃ ss xs, FY a ss xs := by
 rcases ha.pJ Try.underlying44 (by rw [k48]; omega) with h | ⟨f, len, h, hl, hx⟩
 ·injection h with h; subst h
  exact ⟨[], [], fun h => .aV, rfl, Nat.zero_le _, fun j hj => by simp at hj⟩
 ·injection h with h
  subst h
  rw [k48] at hx ⊢
  have each : ∀ i, ∃ p : Spd, i < len → cut f (i * 65) 65 = fB p ∧ p.Ok ∧ 0 ≤ p.pn := fun i => by
   by_cases hi : i < len
   ·obtain ⟨v, e, hv⟩ := PH (hx i hi)
    exact ⟨v, fun _ => ⟨e, hv⟩⟩
   ·exact ⟨⟨[], 0, []⟩, fun q => absurd q hi⟩
  obtain ⟨b, hb⟩ := Classical.axiomOfChoice each
  refine ⟨(List.range len).map fun i => b i, cut f 0 (len * 65), fun h => ?_, rfl, by simpa using hl, fun j hj => ?_⟩
  ·have := Rds.isl (h := h) (sz := 65) f 0 len (cut f 0 (len * 65)) (by rw [AE]) (fun j hj => by rw [sI])
   simpa using this
  ·simp only [List.length_map, List.length_range] at hj
   simp only [List.getElem_map, List.getElem_range]
   rw [AD _ _ _ _ _ (by omega), Nat.zero_add]
   exact hb j hj
structure rA (A : App) (mv sv : a9) : Prop where
 m : ∃ xs, CP mv A.made xs
 s : ∃ xs, FY sv A.c8 xs
 b : A.block.length = 32
theorem PI {vs : List a9} (ha : Arg Try.prog 46 vs) : ∃ A mv sv, vs = bK A mv sv ∧ rA A mv sv := by
 obtain ⟨hl, he⟩ := ha.lC Try.underlying46
 rw [k46] at hl
 have q0 : Arg Try.prog 3 ((vs.drop 0).take (Try.prog.cellsOf 3)) := he 0 _ rfl
 have q1 : Arg Try.prog 25 ((vs.drop 1).take (Try.prog.cellsOf 25)) := he 1 _ rfl
 have q2 : Arg Try.prog 43 ((vs.drop 33).take (Try.prog.cellsOf 43)) := he 2 _ rfl
 have q3 : Arg Try.prog 44 ((vs.drop 34).take (Try.prog.cellsOf 44)) := he 3 _ rfl
 have q4 : Arg Try.prog 2 ((vs.drop 35).take (Try.prog.cellsOf 2)) := he 4 _ rfl
 have q5 : Arg Try.prog 2 ((vs.drop 36).take (Try.prog.cellsOf 2)) := he 5 _ rfl
 rw [k3] at q0
 rw [k25] at q1
 rw [k43] at q2
 rw [k44] at q3
 rw [k2] at q4 q5
 obtain ⟨bT, e0, _⟩ := q0.dB Try.underlying3
 obtain ⟨block, e1, hb⟩ := sN q1
 obtain ⟨mv, e2⟩ : ∃ mv, (vs.drop 33).take 1 = [mv] := List.length_eq_one_iff.1 (by simp; omega)
 obtain ⟨sv, e3⟩ : ∃ sv, (vs.drop 34).take 1 = [sv] := List.length_eq_one_iff.1 (by simp; omega)
 rw [e2] at q2
 rw [e3] at q3
 obtain ⟨made, xs, hm⟩ := WE q2
 obtain ⟨c8, ys, hs⟩ := WH q3
 obtain ⟨eW, e4, _⟩ := q4.dB Try.underlying2
 obtain ⟨left, e5, _⟩ := q5.dB Try.underlying2
 refine ⟨⟨bT, block, made, c8, eW, left⟩, mv, sv, ?_, ⟨xs, hm⟩, ⟨ys, hs⟩, hb⟩
 have c0 := mF vs 0 1
 rw [List.drop_zero] at c0
 rw [List.drop_zero] at e0
 rw [e0, mF vs (0 + 1) 32, e1, mF vs (0 + 1 + 32) 1, e2, mF vs (0 + 1 + 32 + 1) 1, e3, mF vs (0 + 1 + 32 + 1 + 1) 1, e4, mF vs (0 + 1 + 32 + 1 + 1 + 1) 1, e5, List.drop_eq_nil_of_le (show vs.length ≤ 0 + 1 + 32 + 1 + 1 + 1 + 1 by omega)] at c0
 rw [c0]
 simp [bK]
structure OpS where
 kind : Int
 A : App
 next : Bool
 num : Int
def dL (o : OpS) (mv sv : a9) : List a9 := .int .i64 o.kind :: (bK o.A mv sv ++ [.bool o.next, .int .i64 o.num])
theorem WI {vs : List a9} (ha : Arg Try.prog 105 vs) : ∃ o mv sv, vs = dL o mv sv ∧ rA o.A mv sv ∧ (Lit.int .i64 o.num).wf = true := by
 obtain ⟨hl, he⟩ := ha.lC Try.underlying105
 rw [U4] at hl
 have q0 : Arg Try.prog 3 ((vs.drop 0).take (Try.prog.cellsOf 3)) := he 0 _ rfl
 have q1 : Arg Try.prog 46 ((vs.drop 1).take (Try.prog.cellsOf 46)) := he 1 _ rfl
 have q2 : Arg Try.prog 4 ((vs.drop 38).take (Try.prog.cellsOf 4)) := he 2 _ rfl
 have q3 : Arg Try.prog 3 ((vs.drop 39).take (Try.prog.cellsOf 3)) := he 3 _ rfl
 rw [k3] at q0 q3
 rw [k46] at q1
 rw [k4] at q2
 obtain ⟨kind, e0, _⟩ := q0.dB Try.underlying3
 obtain ⟨A, mv, sv, e1, hA⟩ := PI q1
 obtain ⟨nx, e2⟩ := q2.jL Try.underlying4
 obtain ⟨num, e3, hw⟩ := q3.dB Try.underlying3
 refine ⟨⟨kind, A, nx, num⟩, mv, sv, ?_, hA, hw⟩
 have c0 := mF vs 0 1
 rw [List.drop_zero] at c0
 rw [List.drop_zero] at e0
 rw [e0, mF vs (0 + 1) 37, e1, mF vs (0 + 1 + 37) 1, e2, mF vs (0 + 1 + 37 + 1) 1, e3, List.drop_eq_nil_of_le (show vs.length ≤ 0 + 1 + 37 + 1 + 1 by omega)] at c0
 rw [c0]
 simp [dL]
structure xD (a : a9) (os : List OpS) (xs : List a9) : Prop where
 rd : ∀ h, Rds h 40 a os.length xs
 id : bB a = none
 len : os.length ≤ maxLen
 at_ : ∀ j (hj : j < os.length), ∃ mv sv, (xs.drop (j * 40)).take 40 = dL os[j] mv sv ∧ rA os[j].A mv sv ∧ (Lit.int .i64 os[j].num).wf = true
theorem WG {a : a9} (ha : Arg Try.prog 101 [a]) : ∃ os xs, xD a os xs := by
 rcases ha.pJ Try.underlying101 (by rw [U4]; omega) with h | ⟨f, len, h, hl, hx⟩
 ·injection h with h; subst h
  exact ⟨[], [], fun h => .aV, rfl, Nat.zero_le _, fun j hj => by simp at hj⟩
 ·injection h with h
  subst h
  rw [U4] at hx ⊢
  have each : ∀ i, ∃ p : OpS × a9 × a9, i < len → cut f (i * 40) 40 = dL p.1 p.2.1 p.2.2 ∧ rA p.1.A p.2.1 p.2.2 ∧ (Lit.int .i64 p.1.num).wf = true := fun i => by
   by_cases hi : i < len
   ·obtain ⟨o, mv, sv, e⟩ := WI (hx i hi)
    exact ⟨(o, mv, sv), fun _ => e⟩
   ·exact ⟨(⟨0, ⟨0, [], [], [], 0, 0⟩, false, 0⟩, .aV, .aV), fun q => absurd q hi⟩
  obtain ⟨b, hb⟩ := Classical.axiomOfChoice each
  refine ⟨(List.range len).map fun i => (b i).1, cut f 0 (len * 40), fun h => ?_, rfl, by simpa using hl, fun j hj => ?_⟩
  ·have := Rds.isl (h := h) (sz := 40) f 0 len (cut f 0 (len * 40)) (by rw [AE]) (fun j hj => by rw [sI])
   simpa using this
  ·simp only [List.length_map, List.length_range] at hj
   simp only [List.getElem_map, List.getElem_range]
   rw [AD _ _ _ _ _ (by omega), Nat.zero_add]
   exact ⟨(b j).2.1, (b j).2.2, hb j hj⟩
theorem AR : und env 101 = M.pure (.slice 105) := rfl
theorem HY : sizeOf env 105 = M.pure 40 := rfl
theorem Y2 {o : OpS} {mv sv : a9} (hb : o.A.block.length = 32) : (dL o mv sv)[34]? = some mv := by
 unfold dL
 rw [List.getElem?_cons_succ, List.getElem?_append_left (by rw [cO hb]; omega)]
 exact nC hb 0
theorem pS_s {o : OpS} {mv sv : a9} (hb : o.A.block.length = 32) : (dL o mv sv)[35]? = some sv := by
 unfold dL
 rw [List.getElem?_cons_succ, List.getElem?_append_left (by rw [cO hb]; omega)]
 exact nC hb 1
def yC (v : Ver) : Bool := decide (200 < v.aR.length)
def oK (o : OpS) : Bool := decide (20 < o.A.made.length) || decide (20 < o.A.c8.length) || o.A.made.any yC
def nL (os : List OpS) : Bool := decide (30 < os.length) || os.any oK
theorem JZ (Q : eJ) (ks : List Kf) (a mv sv : a9) (os : List OpS) (xs ys : List a9) (i : Nat) (o : OpS) (h : Hp) (n : Nat) (ha : xD a os xs) (hi : i < os.length) (he : (xs.drop (i * 40)).take 40 = dL o mv sv) (hb : o.A.block.length = 32) (hm : CP mv o.A.made ys)
  (hq : ∀ (x2 x4 x7 x11 x30 x39 x52 : a9), o.A.made.any yC = false → dV env 57 none Q ks (.exit 2) (a :: a9.aA :: x2 :: .int .i64 (i : Nat) :: x4 :: a9.aA :: a9.aA :: x7 :: a9.aA :: .int .i64 (os.length : Nat) :: .int .i64 (i : Nat) :: x11 :: a9.aA :: a9.aA :: a9.aA :: a9.aA :: a9.aA :: a9.aA :: a9.aA :: a9.aA :: a9.aA :: a9.aA :: a9.aA :: a9.aA :: a9.aA :: a9.aA :: a9.aA :: a9.aA :: a9.aA :: a9.aA :: x30 :: a9.aA :: a9.aA :: a9.aA :: a9.aA :: a9.aA :: a9.aA :: .int .i64 (o.A.made.length : Nat) :: .int .i64 (o.A.made.length : Nat) :: x39 :: a9.aA :: a9.aA :: a9.aA :: a9.aA :: a9.aA :: a9.aA :: a9.aA :: a9.aA :: a9.aA :: a9.aA :: a9.aA :: a9.aA :: x52 :: a9.aA :: a9.aA :: []) h n)
  (hr : ∀ (x0 x3 x4 x7 x9 x10 x11 x30 x37 x38 x39 x52 : a9), o.A.made.any yC = true → dV env 57 none Q ks .ret (x0 :: a9.aA :: .int .i64 1 :: x3 :: x4 :: a9.aA :: a9.aA :: x7 :: a9.aA :: x9 :: x10 :: x11 :: a9.aA :: a9.aA :: a9.aA :: a9.aA :: a9.aA :: a9.aA :: a9.aA :: a9.aA :: a9.aA :: a9.aA :: a9.aA :: a9.aA :: a9.aA :: a9.aA :: a9.aA :: a9.aA :: a9.aA :: a9.aA :: x30 :: a9.aA :: a9.aA :: a9.aA :: a9.aA :: a9.aA :: a9.aA :: x37 :: x38 :: x39 :: a9.aA :: a9.aA :: a9.aA :: a9.aA :: a9.aA :: a9.aA :: a9.aA :: a9.aA :: a9.aA :: a9.aA :: a9.aA :: a9.aA :: x52 :: a9.aA :: a9.aA :: []) h n) :
  ∀ (m k : Nat) (x2 x4 x7 x11 x30 x39 x52 : a9), k + m = o.A.made.length → (o.A.made.take k).any yC = false →
  Run env 57 none Q (.loop DI) ks (a :: a9.aA :: x2 :: .int .i64 (i : Nat) :: x4 :: a9.aA :: a9.aA :: x7 :: a9.aA :: .int .i64 (os.length : Nat) :: .int .i64 (i : Nat) :: x11 :: a9.aA :: a9.aA :: a9.aA :: a9.aA :: a9.aA :: a9.aA :: a9.aA :: a9.aA :: a9.aA :: a9.aA :: a9.aA :: a9.aA :: a9.aA :: a9.aA :: a9.aA :: a9.aA :: a9.aA :: a9.aA :: x30 :: a9.aA :: a9.aA :: a9.aA :: a9.aA :: a9.aA :: a9.aA :: .int .i64 (o.A.made.length : Nat) :: .int .i64 (k : Nat) :: x39 :: a9.aA :: a9.aA :: a9.aA :: a9.aA :: a9.aA :: a9.aA :: a9.aA :: a9.aA :: a9.aA :: a9.aA :: a9.aA :: a9.aA :: x52 :: a9.aA :: a9.aA :: []) h n := by
 have hlen := hm.len
 have hmax : maxLen = 9223372036854775807 := rfl
 intro m
 induction m with
 | zero =>
  intro k x2 x4 x7 x11 x30 x39 x52 hk hs
  have : k = o.A.made.length := by omega
  subst this
  have hc : ¬ ((o.A.made.length : Nat) : Int) < ((o.A.made.length : Nat) : Int) := by omega
  rw [cF]
  simp only [DI, bS, Try.f57, Option.getD_some, aC, fgr, execOp, opd, aD, put, nth, aB, bor, aJ, aK, intOp, List.getD_cons_zero, List.getD_cons_succ, hc, gL, gB]
  rw [List.take_length] at hs
  exact hq _ _ _ _ _ _ _ hs
 | succ m ih =>
  intro k x2 x4 x7 x11 x30 x39 x52 hk hs
  have hil : k < o.A.made.length := by omega
  have hc : ((k : Nat) : Int) < ((o.A.made.length : Nat) : Int) := by omega
  have hwr : IntKind.i64.wrap (((k : Nat) : Int) + 1) = ((k + 1 : Nat) : Int) := by rw [w64 (by omega) (by omega)]; omega
  have hr0 := ha.rd h
  have m1 := jA hr0 (by omega) (i * 40) 1
  have m2 := jA hr0 (by omega) (i * 40 + 1) 33
  have hx : xs[i * 40 + 1 + 33]? = some mv := by
   rw [show i * 40 + 1 + 33 = i * 40 + 34 by omega, piece he (by omega)]
   exact Y2 hb
  obtain ⟨sw, e, hv⟩ := hm.at_ k hil
  have hr1 := hm.rd h
  have m3 := jA hr1 (by omega) (k * 70) 35
  have hy : ys[k * 70 + 35]? = some sw := by
   rw [piece e (by omega)]
   exact jE hv.ok.h 2
  rw [cF]
  simp only [DI, bS, Try.f57, Option.getD_some, aC, fgr, execOp, opd, aD, put, nth, aB, bor, aJ, aK, intOp, List.getD_cons_zero, List.getD_cons_succ, hc, gL, gB]
  rw [aM (hr0.idx (j := i) AR HY rfl hi)]
  simp only [aC, tyr, execOp, opd, aD, put, nth, und, sizeOf, aZ, fieldAddr, m1, m2, gL]
  rw [aM (hr0.load (k := i * 40 + 1 + 33) oC rfl hx)]
  simp only [aC, execOp, opd, aD, put, nth]
  rw [aM (hr1.idx (j := k) u43 Q9 rfl hil)]
  simp only [aC, tyr, execOp, opd, aD, put, nth, und, sizeOf, aZ, fieldAddr, m3, gL]
  rw [aM (hr1.load (k := k * 70 + 35) uC rfl hy)]
  by_cases hov : 200 < o.A.made[k].aR.length
  ·have hc2 : 200 < ((o.A.made[k].aR.length : Nat) : Int) := by omega
   simp only [aC, fgr, execOp, opd, bG, ofValue, aD, put, nth, aB, aL, builtin, dH, bor, aJ, aK, intOp, gt_iff_lt, (hv.s.bytes h).cY t29, hc2, gB]
   exact hr _ _ _ _ _ _ _ _ _ _ _ _ (List.any_eq_true.2 ⟨_, List.getElem_mem hil, decide_eq_true hov⟩)
  ·have hc2 : ¬ 200 < ((o.A.made[k].aR.length : Nat) : Int) := by omega
   simp only [aC, fgr, execOp, opd, bG, ofValue, aD, put, nth, aB, aL, builtin, dH, bor, aJ, aK, intOp, bU, gt_iff_lt, (hv.s.bytes h).cY t29, hc2, hwr, gB]
   refine ih (k + 1) _ _ _ _ _ _ _ (by omega) ?_
   rw [List.take_add_one, List.getElem?_eq_getElem hil, Option.toList_some, List.any_append, hs]
   simp [yC, hov]
theorem K0 (Q : eJ) (ks : List Kf) (a : a9) (os : List OpS) (xs : List a9) (h : Hp) (n : Nat) (ha : xD a os xs)
  (hq : ∀ (x2 x3 x4 x7 x11 x30 x37 x38 x39 x52 : a9), os.any oK = false → dV env 57 none Q ks (.exit 0) (a :: a9.aA :: x2 :: x3 :: x4 :: a9.aA :: a9.aA :: x7 :: a9.aA :: .int .i64 (os.length : Nat) :: .int .i64 (os.length : Nat) :: x11 :: a9.aA :: a9.aA :: a9.aA :: a9.aA :: a9.aA :: a9.aA :: a9.aA :: a9.aA :: a9.aA :: a9.aA :: a9.aA :: a9.aA :: a9.aA :: a9.aA :: a9.aA :: a9.aA :: a9.aA :: a9.aA :: x30 :: a9.aA :: a9.aA :: a9.aA :: a9.aA :: a9.aA :: a9.aA :: x37 :: x38 :: x39 :: a9.aA :: a9.aA :: a9.aA :: a9.aA :: a9.aA :: a9.aA :: a9.aA :: a9.aA :: a9.aA :: a9.aA :: a9.aA :: a9.aA :: x52 :: a9.aA :: a9.aA :: []) h n)
  (hr : ∀ (x0 x3 x4 x7 x9 x10 x11 x30 x37 x38 x39 x52 : a9), os.any oK = true → dV env 57 none Q ks .ret (x0 :: a9.aA :: .int .i64 1 :: x3 :: x4 :: a9.aA :: a9.aA :: x7 :: a9.aA :: x9 :: x10 :: x11 :: a9.aA :: a9.aA :: a9.aA :: a9.aA :: a9.aA :: a9.aA :: a9.aA :: a9.aA :: a9.aA :: a9.aA :: a9.aA :: a9.aA :: a9.aA :: a9.aA :: a9.aA :: a9.aA :: a9.aA :: a9.aA :: x30 :: a9.aA :: a9.aA :: a9.aA :: a9.aA :: a9.aA :: a9.aA :: x37 :: x38 :: x39 :: a9.aA :: a9.aA :: a9.aA :: a9.aA :: a9.aA :: a9.aA :: a9.aA :: a9.aA :: a9.aA :: a9.aA :: a9.aA :: a9.aA :: x52 :: a9.aA :: a9.aA :: []) h n) :
  ∀ (m i : Nat) (x2 x3 x4 x7 x11 x30 x37 x38 x39 x52 : a9), i + m = os.length → (os.take i).any oK = false →
  Run env 57 none Q (.loop DJ) ks (a :: a9.aA :: x2 :: x3 :: x4 :: a9.aA :: a9.aA :: x7 :: a9.aA :: .int .i64 (os.length : Nat) :: .int .i64 (i : Nat) :: x11 :: a9.aA :: a9.aA :: a9.aA :: a9.aA :: a9.aA :: a9.aA :: a9.aA :: a9.aA :: a9.aA :: a9.aA :: a9.aA :: a9.aA :: a9.aA :: a9.aA :: a9.aA :: a9.aA :: a9.aA :: a9.aA :: x30 :: a9.aA :: a9.aA :: a9.aA :: a9.aA :: a9.aA :: a9.aA :: x37 :: x38 :: x39 :: a9.aA :: a9.aA :: a9.aA :: a9.aA :: a9.aA :: a9.aA :: a9.aA :: a9.aA :: a9.aA :: a9.aA :: a9.aA :: a9.aA :: x52 :: a9.aA :: a9.aA :: []) h n := by
 have hlen := ha.len
 have hmax : maxLen = 9223372036854775807 := rfl
 intro m
 induction m with
 | zero =>
  intro i x2 x3 x4 x7 x11 x30 x37 x38 x39 x52 hi hs
  have : i = os.length := by omega
  subst this
  have hc : ¬ ((os.length : Nat) : Int) < ((os.length : Nat) : Int) := by omega
  rw [cF]
  simp only [DJ, bS, Try.f57, Option.getD_some, aC, fgr, execOp, opd, aD, put, nth, aB, bor, aJ, aK, intOp, List.getD_cons_zero, hc, gL, gB]
  rw [List.take_length] at hs
  exact hq _ _ _ _ _ _ _ _ _ _ hs
 | succ m ih =>
  intro i x2 x3 x4 x7 x11 x30 x37 x38 x39 x52 hi hs
  have hil : i < os.length := by omega
  have hc : ((i : Nat) : Int) < ((os.length : Nat) : Int) := by omega
  have hwr : IntKind.i64.wrap (((i : Nat) : Int) + 1) = ((i + 1 : Nat) : Int) := by rw [w64 (by omega) (by omega)]; omega
  obtain ⟨mv, sv, he, ⟨⟨ys, hm⟩, ⟨zs, hss⟩, hb⟩, _⟩ := ha.at_ i hil
  have hr0 := ha.rd h
  have m1 := jA hr0 (by omega) (i * 40) 1
  have m2 := jA hr0 (by omega) (i * 40 + 1) 33
  have m3 := jA hr0 (by omega) (i * 40 + 1) 34
  have hx : xs[i * 40 + 1 + 33]? = some mv := by
   rw [show i * 40 + 1 + 33 = i * 40 + 34 by omega, piece he (by omega)]
   exact Y2 hb
  have hx2 : xs[i * 40 + 1 + 34]? = some sv := by
   rw [show i * 40 + 1 + 34 = i * 40 + 35 by omega, piece he (by omega)]
   exact pS_s hb
  have hov : ∀ b, oK os[i] = b → (os.take (i + 1)).any oK = b := fun b q => by
   rw [List.take_add_one, List.getElem?_eq_getElem hil, Option.toList_some, List.any_append, hs]
   simp [q]
  have hmem := List.getElem_mem hil
  have lm := (hm.rd h).cY (E := env) (t := 43) (ts := []) u43
  have ls := (hss.rd h).cY (E := env) (t := 44) (ts := []) u44
  rw [cF]
  simp only [DJ, bS, Try.f57, Option.getD_some, aC, fgr, execOp, opd, aD, put, nth, aB, bor, aJ, aK, intOp, List.getD_cons_zero, hc, gL, gB]
  rw [aM (hr0.idx (j := i) AR HY rfl hil)]
  simp only [aC, tyr, execOp, opd, aD, put, nth, und, sizeOf, aZ, fieldAddr, m1, m2, gL]
  rw [aM (hr0.load (k := i * 40 + 1 + 33) oC rfl hx)]
  simp only [aC, execOp, opd, bG, ofValue, aD, put, nth, aL, builtin, dH, bor, aJ, aK, intOp, gt_iff_lt, lm, gL, gB]
  by_cases c1 : 20 < os[i].A.made.length
  ·have c1' : 20 < ((os[i].A.made.length : Nat) : Int) := by omega
   simp only [aC, fgr, execOp, opd, ofValue, aD, put, nth, aB, bC, branch, c1', gL, gB]
   exact hr _ _ _ _ _ _ _ _ _ _ _ _ (List.any_eq_true.2 ⟨_, hmem, by simp [oK, c1]⟩)
  have c1' : ¬ 20 < ((os[i].A.made.length : Nat) : Int) := by omega
  simp only [aC, execOp, opd, aD, put, nth, c1', gL, gB]
  rw [aM (hr0.idx (j := i) AR HY rfl hil)]
  simp only [aC, tyr, execOp, opd, aD, put, nth, und, sizeOf, aZ, fieldAddr, m1, m3, gL]
  rw [aM (hr0.load (k := i * 40 + 1 + 34) CW rfl hx2)]
  simp only [aC, fgr, execOp, opd, bG, ofValue, aD, put, nth, aB, aL, builtin, dH, bor, aJ, aK, intOp, bC, branch, gt_iff_lt, ls, gL, gB]
  by_cases c2 : 20 < os[i].A.c8.length
  ·have c2' : 20 < ((os[i].A.c8.length : Nat) : Int) := by omega
   simp only [aC, fgr, execOp, opd, ofValue, aD, put, aB, c2', gB]
   exact hr _ _ _ _ _ _ _ _ _ _ _ _ (List.any_eq_true.2 ⟨_, hmem, by simp [oK, c2]⟩)
  have c2' : ¬ 20 < ((os[i].A.c8.length : Nat) : Int) := by omega
  simp only [aC, execOp, opd, aD, put, nth, c2', gB]
  rw [aM (hr0.idx (j := i) AR HY rfl hil)]
  simp only [aC, tyr, execOp, opd, aD, put, nth, und, sizeOf, aZ, fieldAddr, m1, m2, gL]
  rw [aM (hr0.load (k := i * 40 + 1 + 33) oC rfl hx)]
  simp only [aC, fgr, execOp, opd, bG, ofValue, aD, put, nth, aB, aL, builtin, dH, lm]
  refine JZ _ _ a mv sv os xs ys i os[i] h n ha hil he hb hm ?_ ?_ os[i].A.made.length 0 _ _ _ _ _ _ _ (by omega) rfl
  ·intro x2 x4 x7 x11 x30 x39 x52 h0
   simp only [aC, fgr, execOp, opd, ofValue, aD, put, nth, aB, bor, aJ, aK, intOp, bU, hwr, gB]
   exact ih (i + 1) _ _ _ _ _ _ _ _ _ _ (by omega) (hov false (by simp [oK, c1, c2, h0]))
  ·intro x0 x3 x4 x7 x9 x10 x11 x30 x37 x38 x39 x52 h0
   simp only [aC]
   exact hr _ _ _ _ _ _ _ _ _ _ _ _ (List.any_eq_true.2 ⟨_, hmem, by simp [oK, h0]⟩)
theorem f57 (a : a9) (os : List OpS) (xs : List a9) (h : Hp) (n : Nat) (ha : xD a os xs) :
  Wp (bD env (evalW env) 57 [a]) h n fun v' h' n' => v' = .int .i64 (if nL os then 1 else 0) ∧ h' = h ∧ n' = n := by
 refine bL ff57 fi57 ?_
 have hr0 := ha.rd h
 simp only [V1, Try.f57, Option.getD_some, List.replicate, aC, fgr, execOp, opd, bG, ofValue, aD, put, nth, aB, aL, builtin, dH, bor, aJ, aK, intOp, ended, aT, aU, Nat.reduceSub, gt_iff_lt, hr0.cY AR, gL, gB, gI]
 by_cases c : 30 < os.length
 ·have c' : 30 < ((os.length : Nat) : Int) := by omega
  simp only [aC, fgr, execOp, opd, ofValue, aD, put, nth, aB, ↓reduceIte, c', nL, c, gB]
 ·have c' : ¬ 30 < ((os.length : Nat) : Int) := by omega
  simp only [aC, fgr, execOp, opd, bG, ofValue, aD, put, nth, aB, aL, builtin, dH, c', hr0.cY AR, gB]
  refine K0 _ _ a os xs h n ha ?_ ?_ os.length 0 _ _ _ _ _ _ _ _ _ _ (by omega) rfl
  ·intro x2 x3 x4 x7 x11 x30 x37 x38 x39 x52 h0
   simp only [aC, fgr, execOp, opd, ofValue, aD, put, nth, aB, ↓reduceIte, reduceCtorEq, nL, c, h0, gB]
  ·intro x0 x3 x4 x7 x9 x10 x11 x30 x37 x38 x39 x52 h0
   simp only [aC, nth, ↓reduceIte, Bool.or_true, and_self, nL, h0]
theorem nK {os : List OpS} (h : nL os = false) : os.length ≤ 30 ∧ ∀ o ∈ os, o.A.made.length ≤ 20 ∧ o.A.c8.length ≤ 20 ∧ ∀ v ∈ o.A.made, v.aR.length ≤ 200 := by
 unfold nL at h
 simp only [Bool.or_eq_false_iff, decide_eq_false_iff_not, List.any_eq_false] at h
 refine ⟨by omega, fun o ho => ?_⟩
 have := h.2 o ho
 unfold oK at this
 simp only [Bool.or_eq_true, decide_eq_true_eq, not_or, List.any_eq_true, not_exists, not_and] at this
 refine ⟨by omega, by omega, fun v hv => ?_⟩
 have := this.2 v hv
 unfold yC at this
 simp only [decide_eq_true_eq] at this
 omega
theorem f111 (v : a9) (l : List UInt8) (h : Hp) (n : Nat) (hb : Bytes h v l) (hl : l.length ≤ 1000000) (hf : bO h n) : Wp (bD env (evalW env) 111 [v]) h n fun v' h' n' => Bytes h' v' l ∧ (∀ j, bB v' = some j → n ≤ j ∧ j < n') ∧ Old h h' n := by
 refine bL aa7 Z5 ?_
 simp only [KU, Try.f111, Option.getD_some, List.replicate, aC, fgr, execOp, opd, bG, ofValue, aD, put, nth, aB, aL, builtin, fC, ended, aT, aU, Nat.reduceSub, gL, gI]
 refine fU (i := ⟨.int .u8, 1, 1, .int .u8 0⟩) (e := 5) (cnt := 0) (xs := []) .nil hb.rds t29 t29 ti5 (sV l) (by decide) (by show 2 * (0 + l.length) * 1 ≤ _; omega) (by omega) hf ?_
 intro v' h' n' hn hf' ho hid hold
 simp only [aC, fgr, execOp, opd, aD, put, nth, aB, gB]
 rw [List.nil_append] at ho
 refine ⟨ho.rds.bytes (by intro e; subst e; cases ho), fun j hj => ?_, fun j hj => hold j hj (fun e => by cases e)⟩
 rcases hid with q | ⟨q, q2⟩
 ·rw [q] at hj; cases hj
 ·rw [q] at hj; injection hj with hj; omega
theorem z9 {A : App} {mv sv x : a9} (hb : A.block.length = 32) : cB (bK A mv sv) 33 [x] = bK A x sv := by
 have e : bK A mv sv = (.int .i64 A.bT :: A.block.map u8) ++ ([mv] ++ [sv, .int .i64 A.eW, .int .i64 A.left]) := by simp [bK]
 rw [e, lE (mid := [mv]) (vs := [x]) (by simp [hb]) rfl]
 simp [bK]
theorem z8 {A : App} {mv sv x : a9} (hb : A.block.length = 32) : cB (bK A mv sv) 34 [x] = bK A mv x := by
 have e : bK A mv sv = (.int .i64 A.bT :: A.block.map u8 ++ [mv]) ++ ([sv] ++ [.int .i64 A.eW, .int .i64 A.left]) := by simp [bK]
 rw [e, lE (mid := [sv]) (vs := [x]) (by simp [hb]) rfl]
 simp [bK]
theorem TN (Q : eJ) (ks : List Kf) (A : App) (mv sv : a9) (xs : List a9) (hm : CP mv A.made xs) (hb : A.block.length = 32) (hl : A.made.length ≤ 1000000) (hsl : ∀ v ∈ A.made, v.aR.length ≤ 1000000) (n : Nat) (et0 : TypeId) (H : Hp) (hr : Row H n (bK A mv sv))
  (hT : ∀ (h : Hp) (m : Nat) (acc : a9) (cells : List a9) (x0 x5 x13 : a9), h (n + 1 + 1) = some (.row (.l (bK A acc .aV)) et0) → Lst h 31 70 acc A.made.length cells → Vs h (fun j => n + 1 + 1 + 1 ≤ j ∧ j < m ∧ bB acc ≠ some j) cells A.made → (∀ j, bB acc = some j → n + 1 + 1 + 1 ≤ j) → (∀ j, j < n + 1 + 1 → h j = H j) → n + 1 + 1 + 1 ≤ m → bO h m →
   dV env 96 none Q ks (.exit 0) (x0 :: .ptr n 0 :: .ptr (n + 1) 0 :: .ptr (n + 1 + 1) 0 :: .int .i64 (A.made.length : Nat) :: x5 :: a9.aA :: a9.aA :: a9.aA :: a9.aA :: a9.aA :: a9.aA :: a9.aA :: x13 :: a9.aA :: a9.aA :: a9.aA :: a9.aA :: a9.aA :: a9.aA :: a9.aA :: a9.aA :: a9.aA :: a9.aA :: a9.aA :: a9.aA :: a9.aA :: a9.aA :: a9.aA :: a9.aA :: a9.aA :: a9.aA :: a9.aA :: a9.aA :: a9.aA :: a9.aA :: a9.aA :: a9.aA :: []) h m) :
  ∀ (k i : Nat) (h : Hp) (m : Nat) (acc : a9) (cells : List a9) (x0 x5 x13 : a9), i + k = A.made.length → h (n + 1 + 1) = some (.row (.l (bK A acc .aV)) et0) → Lst h 31 70 acc i cells → Vs h (fun j => n + 1 + 1 + 1 ≤ j ∧ j < m ∧ bB acc ≠ some j) cells (A.made.take i) → (∀ j, bB acc = some j → n + 1 + 1 + 1 ≤ j) → (∀ j, j < n + 1 + 1 → h j = H j) → n + 1 + 1 + 1 ≤ m → bO h m →
   Run env 96 none Q (.loop DA) ks (x0 :: .ptr n 0 :: .ptr (n + 1) 0 :: .ptr (n + 1 + 1) 0 :: .int .i64 (i : Nat) :: x5 :: a9.aA :: a9.aA :: a9.aA :: a9.aA :: a9.aA :: a9.aA :: a9.aA :: x13 :: a9.aA :: a9.aA :: a9.aA :: a9.aA :: a9.aA :: a9.aA :: a9.aA :: a9.aA :: a9.aA :: a9.aA :: a9.aA :: a9.aA :: a9.aA :: a9.aA :: a9.aA :: a9.aA :: a9.aA :: a9.aA :: a9.aA :: a9.aA :: a9.aA :: a9.aA :: a9.aA :: a9.aA :: []) h m := by
 intro k
 induction k with
 | zero =>
  intro i h m acc cells x0 x5 x13 hk h3 la va ia ho hnm hf
  have : i = A.made.length := by omega
  subst this
  rw [List.take_length] at va
  have hc : ¬ ((A.made.length : Nat) : Int) < ((A.made.length : Nat) : Int) := by omega
  have rn := hr.aX (ho n (by omega))
  rw [cF]
  simp only [DA, bS, Try.f96, Option.getD_some, aC, tyr, execOp, opd, aD, put, nth, und, sizeOf, aZ, aS, fieldAddr, List.getD_cons_zero, gL, gI]
  rw [aM (mI rn hb)]
  simp only [aC, fgr, execOp, opd, bG, aD, put, nth, aB, aL, builtin, dH, bor, aJ, aK, intOp, (hm.rd h).cY u43, hc, gB]
  exact hT h m acc cells _ _ _ h3 la va ia ho hnm hf
 | succ k ih =>
  intro i h m acc cells x0 x5 x13 hk h3 la va ia ho hnm hf
  have hil : i < A.made.length := by omega
  have hc : ((i : Nat) : Int) < ((A.made.length : Nat) : Int) := by omega
  have w1 : IntKind.i64.wrap (((i : Nat) : Int) + 1) = ((i + 1 : Nat) : Int) := by rw [w64 (by omega) (by omega)]; omega
  have rn := hr.aX (ho n (by omega))
  obtain ⟨sw, e, hv⟩ := hm.at_ i hil
  have hsv := hsl _ (List.getElem_mem hil)
  have htk : A.made.take (i + 1) = A.made.take i ++ [A.made[i]] := jO hil
  have hlx : xs.length = A.made.length * 70 := (hm.rd h).length
  have hld : ∀ n', Rd (load env 31 (addrOf (i * 70) mv)) h n' (rid mv) (.agg (aO A.made[i] sw)) := fun n' => by
   have := (hm.rd h).agg (E := env) (n := n') (k := i * 70) dY rfl (by decide) (by show i * 70 + 70 ≤ _; omega)
   have e' : (xs.drop (i * 70)).take 70 = aO A.made[i] sw := e
   exact e' ▸ this
  generalize A.made[i] = v at *
  rw [cF]
  simp only [DA, bS, Try.f96, Option.getD_some, aC, tyr, execOp, opd, aD, put, nth, und, sizeOf, aZ, aS, fieldAddr, List.getD_cons_zero, gL, gI]
  rw [aM (mI rn hb)]
  simp only [aC, tyr, fgr, execOp, opd, bG, aD, put, nth, aB, aL, builtin, dH, und, sizeOf, bor, aJ, aK, intOp, aZ, aS, fieldAddr, (hm.rd h).cY u43, hc, gL, gB, gI]
  rw [aM (mI rn hb)]
  simp only [aC, execOp, opd, aD, put, nth]
  rw [aM ((hm.rd h).idx (j := i) u43 Q9 rfl hil)]
  simp only [aC, execOp, opd, aD, put, nth]
  rw [aM (hld m)]
  simp only [aC, execOp, aD, put]
  rw [cD dY rfl]
  simp only [aC, execOp, opd, aD, put, nth, cel]
  have kd := (hv.s.bytes h).kind
  refine dQ (v := .agg (aO v sw)) dY rfl (bM hv.ok.h hv.ok.b) (cL kd.2.1) hf fun H1 r1 p1 f1 => ?_
  replace r1 : Row H1 m (aO v sw) := r1
  simp only [aC, tyr, fgr, execOp, opd, aD, put, nth, aB, und, sizeOf, aZ, aS, fieldAddr, gL, gI]
  rw [aM (iO r1 hv.ok)]
  simp only [aC, hkr, execOp, opd, bG, aD, put, nth, aL, aE, gL]
  refine bF f1 (f111 sw v.aR H1 (m + 1) (hv.s.bytes H1) hsv f1) fun v2 h2 n2 hn2 f2 ⟨b2, i2, o2⟩ => ?_
  obtain ⟨et, g2⟩ := r1.aX (o2 m (by omega))
  simp only [aC, tyr, execOp, opd, aD, put, nth, und, sizeOf, aZ, aS, fieldAddr, gL, gI]
  rw [dR (Row.write (off := 35) (v := v2) g2 uC (by rw [b2.kind.1]; rfl) (by rw [bM hv.ok.h hv.ok.b]; show 35 + 1 ≤ 70; omega) (by rw [b2.kind.1]; simp [b2.kind.2.1]))]
  rw [b2.kind.1, xY hv.ok.h]
  obtain ⟨h3', hh3⟩ : ∃ h3', h3' = upd h2 m (some (.row (.l (aO v v2)) et)) := ⟨_, rfl⟩
  rw [← hh3]
  have r3 : Row h3' m (aO v v2) := ⟨et, by rw [hh3, aW]⟩
  have o3 : ∀ j, j ≠ m → h3' j = h2 j := fun j hj => by rw [hh3, aP _ _ hj]
  have f3 : bO h3' n2 := by rw [hh3]; exact f2.upd (by omega)
  clear hh3
  have oA : ∀ j, j < m → h3' j = h j := fun j hj => by rw [o3 j (by omega), o2 j (by omega), p1 j (by omega)]
  have t3 : h3' (n + 1 + 1) = some (.row (.l (bK A acc .aV)) et0) := (oA _ (by omega)).trans h3
  simp only [aC, tyr, fgr, execOp, opd, aD, put, nth, aB, und, sizeOf, aZ, aS, fieldAddr, gL, gI]
  rw [aM (mI (A := A) (mv := acc) (sv := .aV) ⟨et0, t3⟩ hb)]
  simp only [aC, execOp, opd, aD, put, nth]
  rw [aM (eN r3 hv.ok)]
  simp only [aC, execOp, opd, dE, aD, put, nth, HR (bM hv.ok.h hv.ok.b)]
  refine j4 dY f3 (f := fun id => a9.sl id 0 1 (some 1) 70) fun H4 g4 o4 f4 => ?_
  simp only [aC, execOp, opd, bG, aD, put, nth, aL, builtin, fC]
  have accl : ∀ j, bB acc = some j → j < m := fun j q => la.live hf q
  have oB : ∀ j, j < m → H4 j = h j := fun j hj => by rw [o4 j (by omega), oA j hj]
  have la4 := la.aX (h' := H4) fun j q => oB j (accl j q)
  refine fU (i := fG.i) (e := 31) la4 (nE (cnt := 1) g4 (by rw [bM hv.ok.h hv.ok.b]; rfl)) u43 u43 dY (cL b2.kind.2.1) (by decide) (by show 2 * (i + 1) * 128 ≤ _; omega) (by omega) f4 ?_
  intro acc' h5 n5 hn5 f5 l5 i5 o5
  have i5' : ∀ j, bB acc' = some j → n + 1 + 1 + 1 ≤ j := fun j q => by
   rcases i5 with w | ⟨w, _⟩
   ·rw [w] at q; exact ia j q
   ·rw [w] at q; injection q with q; omega
  have hne : ∀ j, j < n2 + 1 → bB acc ≠ some j → bB acc' ≠ some j := fun j hj hn q => by
   rcases i5 with w | ⟨w, _⟩
   ·rw [w] at q; exact hn q
   ·rw [w] at q; injection q with q; omega
  have t5 : h5 (n + 1 + 1) = some (.row (.l (bK A acc .aV)) et0) := by rw [o5 _ (by omega) (fun q => by have := ia _ q; omega), oB _ (by omega)]; exact h3
  have ka : acc'.cells = [acc'] ∧ bN acc' = true := ⟨l5.rds.kind.1, l5.rds.kind.2.1⟩
  simp only [aC, tyr, execOp, opd, aD, put, nth, und, sizeOf, aZ, aS, fieldAddr, gL, gI]
  rw [dR (Row.write (off := 33) (v := acc') t5 oC (by rw [ka.1]; rfl) (by rw [cO hb]; show 33 + 1 ≤ 37; omega) (by rw [ka.1]; simp [ka.2]))]
  rw [ka.1, z9 hb]
  obtain ⟨h6, hh6⟩ : ∃ h6, h6 = upd h5 (n + 1 + 1) (some (.row (.l (bK A acc' .aV)) et0)) := ⟨_, rfl⟩
  rw [← hh6]
  have g6 : h6 (n + 1 + 1) = some (.row (.l (bK A acc' .aV)) et0) := by rw [hh6, aW]
  have o6 : ∀ j, j ≠ n + 1 + 1 → h6 j = h5 j := fun j hj => by rw [hh6, aP _ _ hj]
  have f6 : bO h6 n5 := by rw [hh6]; exact f5.upd (by omega)
  clear hh6
  have an : ∀ j, m ≤ j → bB acc ≠ some j := fun j hj q => by have := accl j q; omega
  have va6 := va.mono (h' := h6) (D' := fun j => n + 1 + 1 + 1 ≤ j ∧ j < n5 ∧ bB acc' ≠ some j) (fun j q => ⟨q.1, by omega, hne j (by omega) q.2.2⟩) (fun j q => by rw [o6 j (by omega), o5 j (by omega) q.2.2, oB j q.2.1])
  have b6 : Bytes h6 v2 v.aR := b2.aX fun j q => by
   have := i2 j q
   rw [o6 j (by omega), o5 j (by omega) (an j (by omega)), o4 j (by omega), o3 j (by omega)]
  have va7 := va6.snoc b6 hv.ok (fun j q => by have := i2 j q; exact ⟨by omega, by omega, hne j (by omega) (an j (by omega))⟩)
  rw [← htk] at va7
  simp only [aC, fgr, execOp, opd, ofValue, aD, put, nth, aB, bor, aJ, aK, intOp, bU, w1, gB]
  exact ih (i + 1) h6 n5 acc' _ _ _ _ (by omega) g6 (l5.aX fun j q => o6 j (by have := i5' j q; omega)) va7 i5' (fun j hj => by rw [o6 j (by omega), o5 j (by omega) (fun q => by have := ia j q; omega), oB j (by omega), ho j hj]) (by omega) f6
def qG : App := ⟨0, z32, [], [], 0, 0⟩
theorem RD {a : a9} {ss : List Spd} {xs : List a9} (h : FY a ss xs) : xs.all bN = true := by
 rw [List.all_eq_true]
 intro c hc
 obtain ⟨k, hk, rfl⟩ := List.mem_iff_getElem.1 hc
 have hl : xs.length = ss.length * 65 := (h.rd (fun _ => none)).length
 have hj : k / 65 < ss.length := by omega
 have e := (h.at_ (k / 65) hj).1
 have hp := piece e (i := k % 65) (by omega)
 rw [show k / 65 * 65 + k % 65 = k by omega, List.getElem?_eq_getElem hk] at hp
 exact List.all_eq_true.1 (qO ss[k / 65]) _ (List.mem_of_getElem? hp.symm)
theorem f96 (A : App) (mv sv : a9) (h : Hp) (n : Nat) (ha : rA A mv sv) (hl : A.made.length ≤ 1000000) (hl2 : A.c8.length ≤ 1000000) (hsl : ∀ v ∈ A.made, v.aR.length ≤ 1000000) (hf : bO h n) :
  Wp (bD env (evalW env) 96 [.agg (bK A mv sv)]) h n fun v' h' n' => ∃ mv' sv', v' = .agg (bK A mv' sv') ∧ jN h' n n' A mv' sv' ∧ Old h h' n := by
 obtain ⟨⟨xs, hm⟩, ⟨ys, hss⟩, hb⟩ := ha
 have km := (hm.rd h).kind
 have ks := (hss.rd h).kind
 refine bL ff96 fi96 ?_
 simp only [U8, Try.f96, Option.getD_some, List.replicate, aC, execOp, opd, nth, ended, aT, aU, Nat.reduceSub, gL, gI]
 refine dA (v := .agg (bK A mv sv)) lY rfl hf fun H1 r1 o1 f1 => ?_
 replace r1 : Row H1 n (bK A mv sv) := r1
 simp only [aC, execOp, aD, put]
 rw [cD lY rfl]
 obtain ⟨H2, hH2⟩ : ∃ H2, H2 = upd H1 (n + 1) (some (.row (.l (bK qG .aV .aV)) 46)) := ⟨_, rfl⟩
 have g2 : H2 (n + 1) = some (.row (.l (bK qG .aV .aV)) 46) := by rw [hH2, aW]
 have o2 : ∀ j, j ≠ n + 1 → H2 j = H1 j := fun j hj => by rw [hH2, aP _ _ hj]
 have f2 : bO H2 (n + 1 + 1) := by rw [hH2]; exact f1.new
 show Ops _ _ _ _ _ _ _ _ (upd H1 (n + 1) (some (.row (.l (bK qG .aV .aV)) 46))) _
 rw [← hH2]
 clear hH2
 have r2 := r1.aX (o2 n (by omega))
 simp only [aC, fgr, execOp, opd, aD, put, nth, aB]
 rw [aM (lX r2 hb)]
 simp only [aC, execOp, aD, put]
 rw [cD lY rfl]
 simp only [aC, execOp, opd, aD, put, nth, cel]
 refine dQ (v := .agg (bK A mv sv)) lY rfl (cO hb) (jX km.2.1 ks.2.1) f2 fun H3 r3 o3 f3 => ?_
 obtain ⟨et, g3⟩ : Row H3 (n + 1 + 1) (bK A mv sv) := r3
 simp only [aC, tyr, fgr, execOp, opd, ofValue, aD, put, nth, aB, und, sizeOf, aZ, aS, fieldAddr, gL, gI]
 rw [dR (Row.write (off := 33) (v := .aV) g3 oC rfl (by rw [cO hb]; show 33 + 1 ≤ 37; omega) rfl)]
 rw [show cB (bK A mv sv) 33 (a9.aV).cells = bK A .aV sv from z9 hb]
 obtain ⟨H4, hH4⟩ : ∃ H4, H4 = upd H3 (n + 1 + 1) (some (.row (.l (bK A .aV sv)) et)) := ⟨_, rfl⟩
 rw [← hH4]
 have g4 : H4 (n + 1 + 1) = some (.row (.l (bK A .aV sv)) et) := by rw [hH4, aW]
 have o4 : ∀ j, j ≠ n + 1 + 1 → H4 j = H3 j := fun j hj => by rw [hH4, aP _ _ hj]
 have f4 : bO H4 (n + 1 + 1 + 1) := by rw [hH4]; exact f3.upd (by omega)
 clear hH4
 simp only [aC, tyr, fgr, execOp, opd, ofValue, aD, put, nth, aB, und, sizeOf, aZ, aS, fieldAddr, gL, gI]
 rw [dR (Row.write (off := 34) (v := .aV) g4 CW rfl (by rw [cO hb]; show 34 + 1 ≤ 37; omega) rfl)]
 rw [show cB (bK A .aV sv) 34 (a9.aV).cells = bK A .aV .aV from z8 hb]
 obtain ⟨H5, hH5⟩ : ∃ H5, H5 = upd H4 (n + 1 + 1) (some (.row (.l (bK A .aV .aV)) et)) := ⟨_, rfl⟩
 rw [← hH5]
 have g5 : H5 (n + 1 + 1) = some (.row (.l (bK A .aV .aV)) et) := by rw [hH5, aW]
 have o5 : ∀ j, j ≠ n + 1 + 1 → H5 j = H2 j := fun j hj => by rw [hH5, aP _ _ hj, o4 j hj, o3 j hj]
 have f5 : bO H5 (n + 1 + 1 + 1) := by rw [hH5]; exact f4.upd (by omega)
 clear hH5
 have rn5 : Row H5 n (bK A mv sv) := r2.aX (o5 n (by omega))
 simp only [aC, fgr, execOp, opd, ofValue, aD, put, aB]
 refine TN _ _ A mv sv xs hm hb hl hsl n et H5 rn5 ?_ A.made.length 0 H5 (n + 1 + 1 + 1) .aV [] _ _ _ (by omega) g5 .nil (Vs.nil _ _) (fun j q => by cases q) (fun j _ => rfl) (Nat.le_refl _) f5
 intro h6 m6 acc cells x0 x5 x13 g6 l6 v6 i6 o6 hn6 f6
 have rn6 : Row h6 n (bK A mv sv) := rn5.aX (o6 n (by omega))
 simp only [aC, tyr, execOp, opd, aD, put, nth, und, sizeOf, aZ, aS, fieldAddr, gL, gI]
 rw [aM (tO (A := A) (mv := acc) (sv := .aV) ⟨et, g6⟩ hb)]
 simp only [aC, tyr, execOp, opd, aD, put, nth, und, sizeOf, aZ, aS, fieldAddr, gL, gI]
 rw [aM (tO rn6 hb)]
 simp only [aC, execOp, opd, bG, aD, put, nth, aL, builtin, fC]
 refine fU (i := zG.i) (e := 48) (cnt := 0) (xs := []) .nil (hss.rd h6) u44 u44 xI (RD hss) (by decide) (by show 2 * (0 + A.c8.length) * 68 ≤ _; omega) (by omega) f6 ?_
 intro s7 h7 n7 hn7 f7 l7 i7 o7
 have i7' : ∀ j, bB s7 = some j → m6 ≤ j := fun j q => by
  rcases i7 with w | ⟨w, _⟩
  ·rw [w] at q; cases q
  ·rw [w] at q; injection q with q; omega
 have o7' : ∀ j, j < m6 → h7 j = h6 j := fun j hj => o7 j hj (fun q => by cases q)
 have g7 : h7 (n + 1 + 1) = some (.row (.l (bK A acc .aV)) et) := (o7' _ (by omega)).trans g6
 have k7 : s7.cells = [s7] ∧ bN s7 = true := ⟨l7.rds.kind.1, l7.rds.kind.2.1⟩
 have ka : bN acc = true := l6.rds.kind.2.1
 simp only [aC, tyr, execOp, opd, aD, put, nth, und, sizeOf, aZ, aS, fieldAddr, gL, gI]
 rw [dR (Row.write (off := 34) (v := s7) g7 CW (by rw [k7.1]; rfl) (by rw [cO hb]; show 34 + 1 ≤ 37; omega) (by rw [k7.1]; simp [k7.2]))]
 rw [k7.1, z8 hb]
 obtain ⟨h8, hh8⟩ : ∃ h8, h8 = upd h7 (n + 1 + 1) (some (.row (.l (bK A acc s7)) et)) := ⟨_, rfl⟩
 rw [← hh8]
 have g8 : h8 (n + 1 + 1) = some (.row (.l (bK A acc s7)) et) := by rw [hh8, aW]
 have o8 : ∀ j, j ≠ n + 1 + 1 → h8 j = h7 j := fun j hj => by rw [hh8, aP _ _ hj]
 clear hh8
 simp only [aC, fgr, execOp, opd, aD, nth, aB]
 rw [aM (lX (A := A) (mv := acc) (sv := s7) ⟨et, g8⟩ hb)]
 simp only [aC, execOp, opd, aD, put, nth]
 have b8 : h8 (n + 1) = some (.row (.l (bK qG .aV .aV)) 46) := by rw [o8 _ (by omega), o7' _ (by omega), o6 _ (by omega), o5 _ (by omega)]; exact g2
 rw [dR (Row.write (off := 0) (v := .agg (bK A acc s7)) b8 lY (cO hb) (by show 0 + 37 ≤ 37; omega) (jX ka k7.2))]
 rw [dZ (by show (bK _ _ _).length = _; rw [cO hb]; rfl)]
 simp only [aC, fgr, aD, nth, aB, cel, true_and]
 refine eQ (Row.whole (cs := bK A acc s7) ⟨46, aW _ _ _⟩ lY rfl (cO hb)) (wp_pure.2 ?_)
 have oZ : ∀ (b : Option Blk), ∀ j, n + 1 + 1 + 1 ≤ j → upd h8 (n + 1) b j = h7 j := fun b j hj => by rw [aP _ _ (by omega), o8 j (by omega)]
 refine ⟨acc, s7, rfl, ⟨⟨cells, l6.aX fun j q => ?_, v6.mono (fun j q => ⟨by omega, by omega, q.2.2⟩) (fun j q => ?_), fun j q => ?_⟩, ⟨ys, ?_, fun j hj => ?_, fun j q => ?_⟩, hb, hl, hl2⟩, fun j hj => ?_⟩
 ·have := l6.live f6 q
  rw [oZ _ j (i6 j q), o7' j this]
 ·rw [oZ _ j q.1, o7' j q.2.1]
 ·have := l6.live f6 q
  exact ⟨by have := i6 j q; omega, by omega⟩
 ·rw [Nat.zero_add, List.nil_append] at l7
  exact l7.aX fun j q => oZ _ j (by have := i7' j q; omega)
 ·exact ⟨(hss.at_ j hj).1, (hss.at_ j hj).2.1⟩
 ·have := l7.live f7 q
  exact ⟨by have := i7' j q; omega, this⟩
 ·rw [aP _ _ (by omega), o8 j (by omega), o7' j (by omega), o6 j (by omega), o5 j (by omega), o2 j (by omega), o1 j (by omega)]
def atH (z : Int) (v : Ver) : Ver := { v with made := z }
theorem CT {w : Ver} {sv : a9} (h : w.hash.length = 32) (z : Int) : cB (aO w sv) 33 [.int .i64 z] = aO (atH z w) sv := by
 have e : aO w sv = aY w.hash w.pn ++ ([.int .i64 w.made] ++ ([.int .i64 w.value, sv, .bool w.base, .int .i64 w.bZ] ++ w.by_.map u8)) := by simp [aO, mL]
 rw [e, lE (mid := [.int .i64 w.made]) (vs := [.int .i64 z]) (cA h) rfl]
 simp [aO, mL, atH]
theorem vA {xs : List a9} {a : Nat} {y : a9} (h : a < xs.length) : cB xs a [y] = xs.set a y := by
 unfold cB
 rw [List.set_eq_take_append_cons_drop, if_pos h]
 simp
theorem VL.made {h : Hp} {n a b : Nat} {v : a9} {vs : List Ver} (l : VL h a b v vs) {i : Nat} (hi : i < vs.length) (z : Int) :
  ∃ rs ws h2, Wr (kR env 3 (addrOf (i * 70 + 33) v) (.int .i64 z)) h n rs ws undef h2 ∧ VL h2 a b v (vs.modify i (atH z)) ∧ ∀ j, bB v ≠ some j → h2 j = h j := by
 obtain ⟨cells, c1, c2, c3⟩ := l
 obtain ⟨id, cap, cs, rfl, hh, hl, hc, hx⟩ := c1.inv (by omega)
 have hw := Row.write (E := env) (n := n) (off := 0 + (i * 70 + 33)) (v := .int .i64 z) hh ti3 rfl (by show 0 + (i * 70 + 33) + 1 ≤ cs.length; omega) rfl
 have es : cB cs (0 + (i * 70 + 33)) (a9.int .i64 z).cells = cs.set (i * 70 + 33) (.int .i64 z) := by
  rw [Nat.zero_add]
  exact vA (by omega)
 rw [es] at hw
 have hcl : cells.length = vs.length * 70 := c1.rds.length
 refine ⟨_, _, _, hw, ⟨cells.set (i * 70 + 33) (.int .i64 z), ?_, ⟨by rw [List.length_set, List.length_modify]; exact hcl, fun j hj => ?_⟩, c3⟩, fun j q => aP _ _ (fun e => q (by rw [e]; rfl))⟩
 ·rw [List.length_modify]
  refine .sl id _ cap (cs.set (i * 70 + 33) (.int .i64 z)) _ (aW _ _ _) (by rw [List.length_set]; exact hl) (fun k q => by rw [List.length_set]; exact hc k q) ?_
  rw [List.take_set, hx]
 ·rw [List.length_modify] at hj
  obtain ⟨sv, e, bb, o, d⟩ := c2.at_ j hj
  rw [List.getElem_modify]
  have bb' : Bytes (upd h id (some (.row (.l (cs.set (i * 70 + 33) (.int .i64 z))) 31))) sv vs[j].aR := bb.aX fun k q => aP _ _ (fun e => (d k q).2.2 (by rw [e]; rfl))
  by_cases c : i = j
  ·subst c
   rw [if_pos rfl]
   refine ⟨sv, ?_, bb', ⟨o.h, o.b⟩, d⟩
   rw [List.drop_set, if_neg (by omega), List.take_set, e, show i * 70 + 33 - i * 70 = 33 by omega, ← vA (by rw [bM o.h o.b]; omega)]
   exact CT o.h z
  ·rw [if_neg c]
   refine ⟨sv, ?_, bb', o, d⟩
   rw [← e]
   refine List.ext_getElem (by simp) fun k k1 k2 => ?_
   rw [List.getElem_take, List.getElem_take, List.getElem_drop, List.getElem_drop, List.getElem_set, if_neg]
   rw [List.length_take] at k1
   omega
theorem D8 (vs : List Ver) (f : Ver → Ver) {i : Nat} (hi : i < vs.length) : ((vs.take i).map f ++ vs.drop i).modify i f = (vs.take (i + 1)).map f ++ vs.drop (i + 1) := by
 refine List.ext_getElem? fun k => ?_
 rw [List.getElem?_modify]
 have e1 : ((vs.take i).map f).length = i := by rw [List.length_map, List.length_take]; omega
 have e2 : ((vs.take (i + 1)).map f).length = i + 1 := by rw [List.length_map, List.length_take]; omega
 rcases Nat.lt_trichotomy k i with c | c | c
 ·rw [List.getElem?_append_left (by omega), List.getElem?_append_left (by omega), List.getElem?_map, List.getElem?_map, List.getElem?_take_of_lt c, List.getElem?_take_of_lt (by omega)]
  simp only [if_neg (show ¬ i = k by omega)]
  cases vs[k]? <;> rfl
 ·subst c
  rw [List.getElem?_append_right (by omega), List.getElem?_append_left (by omega), e1, Nat.sub_self, List.getElem?_drop, List.getElem?_map, List.getElem?_take_of_lt (by omega)]
  simp only [Nat.add_zero]
  cases vs[k]? <;> simp
 ·rw [List.getElem?_append_right (by omega), List.getElem?_append_right (by omega), e1, e2, List.getElem?_drop, List.getElem?_drop, show i + (k - i) = k by omega, show i + 1 + (k - (i + 1)) = k by omega]
  simp only [if_neg (show ¬ i = k by omega)]
  cases vs[k]? <;> rfl
theorem oJ {o : OpS} {mv sv : a9} (hb : o.A.block.length = 32) : (dL o mv sv).length = 40 := by simp [dL, cO hb]
theorem J8 {h : Hp} {n id : Nat} {o : OpS} {mv sv : a9} (hr : Row h id (dL o mv sv)) (hb : o.A.block.length = 32) : Rd (load env 46 (.ptr id 1)) h n [id] (.agg (bK o.A mv sv)) := by
 have := hr.agg (E := env) (n := n) (off := 1) lY rfl (by rw [oJ hb]; decide)
 have e : ((dL o mv sv).drop 1).take 37 = bK o.A mv sv := by unfold dL; rw [List.drop_succ_cons, List.drop_zero, List.take_append_of_le_length (by rw [cO hb]; omega), List.take_of_length_le (by rw [cO hb]; omega)]
 exact e ▸ this
theorem Y1 {o : OpS} {mv sv : a9} (hb : o.A.block.length = 32) (k : Nat) : (dL o mv sv)[38 + k]? = [a9.bool o.next, .int .i64 o.num][k]? := by
 unfold dL
 rw [show 38 + k = 37 + k + 1 by omega, List.getElem?_cons_succ, List.getElem?_append_right (by rw [cO hb]; omega), cO hb]
 congr 1; omega
theorem GI {h : Hp} {n id : Nat} {o : OpS} {mv sv : a9} (hr : Row h id (dL o mv sv)) (hb : o.A.block.length = 32) : Rd (load env 4 (.ptr id 38)) h n [id] (.bool o.next) := hr.one (Y1 hb 0) ti4 rfl
theorem J7 {h : Hp} {n id : Nat} {o : OpS} {mv sv : a9} (hr : Row h id (dL o mv sv)) (hb : o.A.block.length = 32) : Rd (load env 3 (.ptr id 39)) h n [id] (.int .i64 o.num) := hr.one (Y1 hb 1) ti3 rfl
theorem GJ {h : Hp} {n id : Nat} {o : OpS} {mv sv : a9} (hr : Row h id (dL o mv sv)) : Rd (load env 3 (.ptr id 0)) h n [id] (.int .i64 o.kind) := hr.one rfl ti3 rfl
theorem J9 {h : Hp} {n id : Nat} {o : OpS} {mv sv : a9} (hr : Row h id (dL o mv sv)) (hb : o.A.block.length = 32) : Rd (load env 105 (.ptr id 0)) h n [id] (.agg (dL o mv sv)) := hr.whole xZ rfl (oJ hb)
theorem VL.aS {h : Hp} {a b : Nat} {v : a9} {vs : List Ver} (l : VL h a b v vs) {i : Nat} (hi : i < vs.length) (k m : Nat) : Go.Am.aS m (addrOf k v) = M.pure (addrOf (k + m) v) := by
 obtain ⟨cells, c1, c2, c3⟩ := l
 exact jA c1.rds (by omega) k m
theorem VL.wide {h : Hp} {a b c d : Nat} {v : a9} {vs : List Ver} (l : VL h a b v vs) (h1 : c ≤ a) (h2 : b ≤ d) : VL h c d v vs := by
 obtain ⟨cells, c1, c2, c3⟩ := l
 exact ⟨cells, c1, c2.mono (fun j q => ⟨by omega, by omega, q.2.2⟩) (fun j q => rfl), fun j q => by have := c3 j q; omega⟩
theorem SL.wide {h : Hp} {a b c d : Nat} {v : a9} {ss : List Spd} (l : SL h a b v ss) (h1 : c ≤ a) (h2 : b ≤ d) : SL h c d v ss := by
 obtain ⟨cells, c1, c2, c3⟩ := l
 exact ⟨cells, c1, c2, fun j q => by have := c3 j q; omega⟩
theorem I1 {h : Hp} {a b c d : Nat} {v w : a9} {vs : List Ver} {ss : List Spd} (l : VL h a b v vs) (k : SL h c d w ss) {j : Nat} (h1 : bB w = some j) : bB v ≠ some j := fun h2 => by
 obtain ⟨cells, c1, c2, c3⟩ := l
 obtain ⟨cells2, d1, d2, d3⟩ := k
 clear c2 d2
 generalize vs.length = m at *
 generalize ss.length = m2 at *
 cases c1 with
 | nil => cases h2
 | sl id cnt cap cells xs hh hl hcc hx =>
  cases d1 with
  | nil => cases h1
  | sl id2 cnt2 cap2 cells2 xs2 hh2 hl2 hcc2 hx2 =>
   injection h1 with h1
   injection h2 with h2
   subst h1
   subst h2
   rw [hh] at hh2
   injection hh2 with q
   injection q with q1 q2
   exact absurd q2 (by decide)
def kL (o : OpS) (tip : Int) : App := if o.next then { o.A with bT := IntKind.i64.wrap (tip + 1), made := o.A.made.map (atH (IntKind.i64.wrap (tip + 1))) } else o.A
theorem TR (Q : eJ) (ks : List Kf) (A : App) (tip : Int) (mv sv : a9) (a b c4 c5 n0 : Nat) (z : Int) (hz : IntKind.i64.wrap (tip + 1) = z) (hb : A.block.length = 32) (hl : A.made.length ≤ 1000000) (hb5 : b ≤ c5) (hbn : b ≤ n0) (h0 : Hp) (r5 : Row h0 c5 (bK A mv sv)) (x2 : a9)
  (hT : ∀ (h : Hp) (n : Nat) (x0 x6 x19 : a9), VL h a b mv (A.made.map (atH z)) → (∀ j, bB mv ≠ some j → h j = h0 j) → n0 ≤ n → bO h n →
   dV env 59 none Q ks (.exit 0) (x0 :: .int .i64 tip :: x2 :: a9.aA :: .ptr c4 0 :: .ptr c5 0 :: x6 :: a9.aA :: a9.aA :: a9.aA :: a9.aA :: .bool true :: a9.aA :: a9.aA :: a9.aA :: a9.aA :: a9.aA :: .int .i64 (A.made.length : Nat) :: .int .i64 (A.made.length : Nat) :: x19 :: a9.aA :: a9.aA :: a9.aA :: a9.aA :: a9.aA :: a9.aA :: a9.aA :: a9.aA :: a9.aA :: a9.aA :: []) h n) :
  ∀ (m i : Nat) (h : Hp) (n : Nat) (x0 x6 x19 : a9), i + m = A.made.length → VL h a b mv ((A.made.take i).map (atH z) ++ A.made.drop i) → (∀ j, bB mv ≠ some j → h j = h0 j) → n0 ≤ n → bO h n →
   Run env 59 none Q (.loop DG) ks (x0 :: .int .i64 tip :: x2 :: a9.aA :: .ptr c4 0 :: .ptr c5 0 :: x6 :: a9.aA :: a9.aA :: a9.aA :: a9.aA :: .bool true :: a9.aA :: a9.aA :: a9.aA :: a9.aA :: a9.aA :: .int .i64 (A.made.length : Nat) :: .int .i64 (i : Nat) :: x19 :: a9.aA :: a9.aA :: a9.aA :: a9.aA :: a9.aA :: a9.aA :: a9.aA :: a9.aA :: a9.aA :: a9.aA :: []) h n := by
 intro m
 induction m with
 | zero =>
  intro i h n x0 x6 x19 hm hv hk hn hf
  have : i = A.made.length := by omega
  subst this
  rw [cF]
  have hcc : ¬ (((A.made.length : Nat) : Int) < ((A.made.length : Nat) : Int)) := by omega
  simp only [DG, bS, Try.f59, Option.getD_some, aC, fgr, execOp, opd, aD, put, nth, aB, bor, aJ, aK, intOp, List.getD_cons_zero, hcc, gL, gB]
  rw [List.take_length, List.drop_length, List.append_nil] at hv
  exact hT h n _ _ _ hv hk hn hf
 | succ m ih =>
  intro i h n x0 x6 x19 hm hv hk hn hf
  have hil : i < A.made.length := by omega
  have hcc : (((i : Nat) : Int) < ((A.made.length : Nat) : Int)) := by omega
  have w1 : IntKind.i64.wrap (((i : Nat) : Int) + 1) = ((i + 1 : Nat) : Int) := by rw [w64 (by omega) (by omega)]; omega
  have hvl : i < ((A.made.take i).map (atH z) ++ A.made.drop i).length := by simp; omega
  have hid : ∀ j, bB mv = some j → j < b := fun j q => by
   obtain ⟨cells, c1, c2, c3⟩ := hv
   exact (c3 j q).2
  have r : Row h c5 (bK A mv sv) := r5.aX (hk c5 (fun q => by have := hid _ q; omega))
  have m1 := hv.aS hvl (i * 70) 33
  obtain ⟨rs, ws, h2, w, v2, o2⟩ := hv.made (n := n) hvl z
  rw [D8 _ _ hil] at v2
  have f2 : bO h2 n := fun j hj => by
   rw [o2 j]
   ·exact hf j hj
   ·intro q
    have := hid _ q
    omega
  rw [cF]
  simp only [DG, bS, Try.f59, Option.getD_some, aC, tyr, fgr, execOp, opd, aD, put, nth, aB, und, sizeOf, bor, aJ, aK, intOp, aZ, fieldAddr, List.getD_cons_zero, hcc, gL, gB]
  simp only [aS, aC, execOp, opd, aD, put, nth, aS, gI]
  rw [aM (mI r hb)]
  simp only [aC, execOp, opd, ofValue, aD, put, nth, bor, aJ, aK, intOp, bU, hz, gB]
  rw [aM (hv.idx hvl)]
  simp only [aC, tyr, execOp, opd, aD, put, nth, und, sizeOf, aZ, fieldAddr, m1, gL]
  rw [dR w]
  simp only [aC, fgr, execOp, opd, ofValue, aD, put, nth, aB, bor, aJ, aK, intOp, bU, w1, gB]
  exact ih (i + 1) h2 n _ _ _ (by omega) v2 (fun j q => by rw [o2 j q, hk j q]) hn f2
theorem f59 (o : OpS) (tip : Int) (mv sv : a9) (h : Hp) (n : Nat) (ha : rA o.A mv sv) (hl : o.A.made.length ≤ 1000000) (hl2 : o.A.c8.length ≤ 1000000) (hsl : ∀ v ∈ o.A.made, v.aR.length ≤ 1000000) (hf : bO h n) :
  Wp (bD env (evalW env) 59 [.agg (dL o mv sv), .int .i64 tip]) h n fun v' h' n' => ∃ mv' sv', v' = .agg (bK (kL o tip) mv' sv') ∧ jN h' n n' (kL o tip) mv' sv' ∧ Old h h' n := by
 have hb := ha.b
 refine bL ff59 fi59 ?_
 simp only [UZ, Try.f59, Option.getD_some, List.replicate, aC, execOp, opd, nth, ended, aT, aU, Nat.reduceAdd, Nat.reduceSub, gL, gI]
 refine dA (v := .agg (dL o mv sv)) xZ rfl hf fun H1 r1 o1 f1 => ?_
 replace r1 : Row H1 n (dL o mv sv) := r1
 simp only [aC, execOp, aD, put]
 rw [cD lY rfl]
 obtain ⟨H2, hH2⟩ : ∃ H2, H2 = upd H1 (n + 1) (some (.row (.l (bK qG .aV .aV)) 46)) := ⟨_, rfl⟩
 have g2 : H2 (n + 1) = some (.row (.l (bK qG .aV .aV)) 46) := by rw [hH2, aW]
 have o2 : ∀ j, j ≠ n + 1 → H2 j = H1 j := fun j hj => by rw [hH2, aP _ _ hj]
 have f2 : bO H2 (n + 1 + 1) := by rw [hH2]; exact f1.new
 show Ops _ _ _ _ _ _ _ _ (upd H1 (n + 1) (some (.row (.l (bK qG .aV .aV)) 46))) _
 rw [← hH2]
 clear hH2
 have r2 := r1.aX (o2 n (by omega))
 simp only [aC, tyr, fgr, execOp, opd, aD, put, nth, aB, und, sizeOf, aZ, aS, fieldAddr, gL, gI]
 rw [aM (J8 r2 hb)]
 simp only [aC, hkr, execOp, opd, bG, aD, put, nth, aL, aE, gL]
 refine bF f2 (f96 o.A mv sv H2 _ ha hl hl2 hsl f2) fun v3 h3 n3 hn3 f3 ⟨mv', sv', e3, a3, k3⟩ => ?_
 subst e3
 have oo3 : ∀ j, j < n → h3 j = h j := fun j hj => by rw [k3 j (by omega), o2 j (by omega), o1 j (by omega)]
 have r3 : Row h3 n (dL o mv sv) := r2.aX (k3 n (by omega))
 have g3 : h3 (n + 1) = some (.row (.l (bK qG .aV .aV)) 46) := (k3 _ (by omega)).trans g2
 have km := a3.m.kind
 have ks := a3.s.kind
 simp only [aC, execOp, aD, put]
 rw [cD lY rfl]
 simp only [aC, execOp, opd, aD, put, nth, cel]
 refine dQ (v := .agg (bK o.A mv' sv')) lY rfl (cO hb) (jX km.2.1 ks.2.1) f3 fun H4 r4 p4 f4 => ?_
 replace r4 : Row H4 n3 (bK o.A mv' sv') := r4
 have o4 : ∀ j, j < n3 → H4 j = h3 j := fun j hj => p4 j (by omega)
 have rn4 := r3.aX (o4 n (by omega))
 simp only [aC, tyr, fgr, execOp, opd, aD, put, nth, aB, und, sizeOf, aZ, aS, fieldAddr, gL, gI]
 rw [aM (GI rn4 hb)]
 have oo4 : ∀ j, j < n → H4 j = h j := fun j hj => by rw [o4 j (by omega), oo3 j hj]
 have g4 : H4 (n + 1) = some (.row (.l (bK qG .aV .aV)) 46) := (o4 _ (by omega)).trans g3
 have a4 : jN H4 (n + 1 + 1) n3 o.A mv' sv' := a3.aX fun j q1 q2 => o4 j q2
 cases hnx : o.next with
 | false =>
  have ed : kL o tip = o.A := by unfold kL; rw [hnx]; rfl
  rw [ed]
  simp only [aC, fgr, execOp, opd, aD, put, nth, aB]
  rw [aM (lX r4 hb)]
  simp only [aC, execOp, opd, aD, put, nth]
  rw [dR (Row.write (off := 0) (v := .agg (bK o.A mv' sv')) g4 lY (cO hb) (by show 0 + 37 ≤ 37; omega) (jX km.2.1 ks.2.1))]
  rw [dZ (by show (bK _ _ _).length = _; rw [cO hb]; rfl)]
  simp only [aC, fgr, aD, nth, aB, cel, true_and]
  refine eQ (Row.whole (cs := bK o.A mv' sv') ⟨46, aW _ _ _⟩ lY rfl (cO hb)) (wp_pure.2 ?_)
  have a5 := a4.aX (h' := upd H4 (n + 1) (some (.row (.l (bK o.A mv' sv')) 46))) fun j q1 q2 => aP _ _ (by omega)
  exact ⟨mv', sv', rfl, ⟨VL.wide a5.m (by omega) (by omega), SL.wide a5.s (by omega) (by omega), a5.b, a5.ml, a5.sl⟩, fun j hj => by rw [aP _ _ (by omega), oo4 j hj]⟩
 | true =>
  have ed : kL o tip = { o.A with bT := IntKind.i64.wrap (tip + 1), made := o.A.made.map (atH (IntKind.i64.wrap (tip + 1))) } := by unfold kL; rw [hnx]; rfl
  rw [ed]
  generalize hz : IntKind.i64.wrap (tip + 1) = z
  obtain ⟨et, g5⟩ := r4
  simp only [aC, tyr, fgr, execOp, opd, ofValue, aD, put, nth, aB, und, sizeOf, bor, aJ, aK, intOp, bU, aZ, aS, fieldAddr, hz, gL, gB, gI]
  rw [dR (Row.write (off := 0) (v := .int .i64 z) g5 ti3 rfl (by rw [cO hb]; show 0 + 1 ≤ 37; omega) rfl)]
  have es : cB (bK o.A mv' sv') 0 (a9.int .i64 z).cells = bK { o.A with bT := z } mv' sv' := rfl
  rw [es]
  obtain ⟨H5, hH5⟩ : ∃ H5, H5 = upd H4 n3 (some (.row (.l (bK { o.A with bT := z } mv' sv')) et)) := ⟨_, rfl⟩
  have r5 : Row H5 n3 (bK { o.A with bT := z } mv' sv') := ⟨et, by rw [hH5, aW]⟩
  have o5 : ∀ j, j ≠ n3 → H5 j = H4 j := fun j hj => by rw [hH5, aP _ _ hj]
  have f5 : bO H5 (n3 + 1) := by rw [hH5]; exact f4.upd (by omega)
  rw [← hH5]
  clear hH5
  have a5 := a4.aX (h' := H5) fun j q1 q2 => o5 j (by omega)
  simp only [aC, tyr, fgr, execOp, opd, aD, put, nth, aB, und, sizeOf, aZ, aS, fieldAddr, gL, gI]
  rw [aM (mI r5 hb)]
  simp only [aC, fgr, execOp, opd, bG, ofValue, aD, put, nth, aB, aL, builtin, dH, a5.m.len]
  refine TR _ _ { o.A with bT := z } tip mv' sv' (n + 1 + 1) n3 (n + 1) n3 (n3 + 1) z hz hb hl (Nat.le_refl _) (by omega) H5 r5 (.ptr n 0) ?_ o.A.made.length 0 H5 (n3 + 1) _ _ _ (Nat.zero_add _) a5.m (fun j _ => rfl) (Nat.le_refl _) f5
  intro h6 n6 x0 x6 x19 v6 k6 hn6 f6
  have hid : ∀ j, bB mv' = some j → n + 1 + 1 ≤ j ∧ j < n3 := fun j q => by
   obtain ⟨cells, c1, c2, c3⟩ := v6
   exact c3 j q
  have r6 : Row h6 n3 (bK { o.A with bT := z } mv' sv') := r5.aX (k6 n3 fun q => by have := hid _ q; omega)
  have g6 : h6 (n + 1) = some (.row (.l (bK qG .aV .aV)) 46) := by rw [k6 _ (fun q => by have := hid _ q; omega), o5 _ (by omega)]; exact g4
  simp only [aC, execOp, opd, nth]
  rw [aM (lX r6 hb)]
  simp only [aC, execOp, opd, aD, put, nth]
  rw [dR (Row.write (off := 0) (v := .agg (bK { o.A with bT := z } mv' sv')) g6 lY (cO hb) (by show 0 + 37 ≤ 37; omega) (jX km.2.1 ks.2.1))]
  rw [dZ (by show (bK _ _ _).length = _; rw [cO (show ({ o.A with bT := z } : App).block.length = 32 from hb)]; rfl)]
  simp only [aC, fgr, aD, nth, aB, cel, true_and]
  refine eQ (Row.whole (cs := bK { o.A with bT := z } mv' sv') ⟨46, aW _ _ _⟩ lY rfl (cO hb)) (wp_pure.2 ?_)
  have s6 : SL h6 (n + 1 + 1) n3 sv' o.A.c8 := by
   obtain ⟨cells, c1, c2, c3⟩ := a5.s
   exact ⟨cells, c1.aX fun j q => k6 j (I1 a5.m a5.s q), c2, c3⟩
  have oZ : ∀ j, j ≠ n + 1 → upd h6 (n + 1) (some (.row (.l (bK { o.A with bT := z } mv' sv')) 46)) j = h6 j := fun j hj => aP _ _ hj
  refine ⟨mv', sv', rfl, ⟨VL.wide (v6.aX fun j q1 q2 => oZ j (by omega)) (by omega) (by omega), SL.wide (s6.aX fun j q1 q2 => oZ j (by omega)) (by omega) (by omega), hb, by show (o.A.made.map _).length ≤ _; rw [List.length_map]; exact hl, hl2⟩, fun j hj => ?_⟩
  rw [oZ j (by omega), k6 j (fun q => by have := hid _ q; omega), o5 j (by omega), oo4 j hj]
theorem GH {L : List Ver} {v : Ver} (r : dM false L) (h : sD v L = false) : dM false (mP L v) := by
 refine tD r (nF r v) fun w hw e => ?_
 unfold sD at h
 rw [Bool.or_eq_false_iff, List.any_eq_false] at h
 exact h.2 w hw (decide_eq_true e)
theorem OZ {L : List Ver} {v : Ver} {z : Int} (h : z < v.made) : iR z (mP L v) = iR z L := by
 unfold iR mP fW
 rw [List.filterMap_append, List.filterMap_cons]
 have e : mE z v = none := by unfold mE; rw [if_pos h]
 rw [e]
 simp only
 rw [← List.filterMap_append, List.take_append_drop]
theorem OY {L : List Ver} {w v : Ver} {z : Int} (r : dM false L) (hw : w ∈ L) (h : mE z v = mE z w) : iR z (qB L w v) = iR z L := by
 obtain ⟨P, S, rfl⟩ := List.append_of_mem hw
 rw [zM r]
 unfold iR
 rw [List.filterMap_append, List.filterMap_cons, List.filterMap_append, List.filterMap_cons, h]
theorem G7 {L : List Ver} {w : Ver} (r : dM false L) (hw : w ∈ L) (s : Int) (b : List UInt8) : dM false (qB L w (gQ w s b)) := by
 obtain ⟨P, S, rfl⟩ := List.append_of_mem hw
 rw [zM r]
 unfold dM at r ⊢
 rw [List.pairwise_append, List.pairwise_cons] at r ⊢
 exact ⟨r.1, ⟨fun a ha => r.2.1.1 a ha, r.2.1.2⟩, fun a ha c hc => by
  rcases List.mem_cons.1 hc with rfl | q
  ·exact r.2.2 a ha w (List.mem_cons_self ..)
  ·exact r.2.2 a ha c (List.mem_cons_of_mem _ q)⟩
theorem sY {L : List Ver} {w v u : Ver} (r : dM false L) (hw : w ∈ L) (h : u ∈ qB L w v) : u = v ∨ (u ∈ L ∧ u ≠ w) := by
 rw [II r hw] at h
 obtain ⟨x, hx, e⟩ := List.mem_map.1 h
 by_cases c : fM x w = 0
 ·rw [if_pos c] at e
  exact .inl e.symm
 ·rw [if_neg c] at e
  subst e
  exact .inr ⟨hx, fun q => c (by rw [q]; exact oL.refl w)⟩
structure PL (t : Int) (v : Ver) : Prop where
 m0 : 0 ≤ v.made
 m : v.made ≤ t
 s : (v.bZ = 0 ∧ v.by_ = z32) ∨ (0 < v.bZ ∧ v.bZ ≤ t ∧ v.made ≤ v.bZ)
 v0 : 0 ≤ v.value
 v1 : v.value ≤ 2100000000000000
theorem PL.up {t u : Int} {v : Ver} (f : PL t v) (h : t ≤ u) : PL u v := ⟨f.m0, by have := f.m; omega, by rcases f.s with q | q; exact .inl q; exact .inr ⟨q.1, by omega, q.2.2⟩, f.v0, f.v1⟩
structure Inv (L : List Ver) (t : Int) : Prop where
 r : dM false L
 f : ∀ v ∈ L, PL t v
 o : ∀ a ∈ L, ∀ b ∈ L, a.hash = b.hash → a.pn = b.pn → a.made < b.made → 0 < a.bZ ∧ a.bZ ≤ b.made
theorem Inv.none : Inv [] (-1) := ⟨List.Pairwise.nil, (fun v hv => nomatch hv), (fun v hv => nomatch hv)⟩
theorem PW {f : Ver → Option Ver} : ∀ (L : List Ver), (∀ v ∈ L, f v = some v) → L.filterMap f = L
 | [], _ => rfl
 | v :: L, h => by
  rw [List.filterMap_cons, h v (List.mem_cons_self ..)]
  simp only
  rw [PW L fun w hw => h w (List.mem_cons_of_mem _ hw)]
theorem LI {L : List Ver} {t : Int} (i : Inv L t) {z : Int} (hz : t ≤ z) : iR z L = L := by
 unfold iR
 have : ∀ v ∈ L, mE z v = some v := fun v hv => by
  have f := i.f v hv
  have h1 := f.m
  unfold mE
  rw [if_neg (by omega), if_neg]
  rcases f.s with q | q <;> omega
 exact PW L this
structure Mid (L0 : List Ver) (t : Int) (L : List Ver) : Prop where
 r : dM false L
 e : ∀ v ∈ L, v ∈ L0 ∨ (v.made = t + 1 ∧ v.bZ = 0 ∧ v.by_ = z32 ∧ 0 ≤ v.value ∧ v.value ≤ 2100000000000000 ∧ atV L0 v.hash v.pn t = .none)
theorem PE {L : List Ver} {v a : Ver} {z : Int} (h : atV L v.hash v.pn z = none) (ha : a ∈ L) (h1 : a.hash = v.hash) (h2 : a.pn = v.pn) : there a z = false := by
 cases c : there a z with
 | false => rfl
 | true =>
  have := PD ha c
  rw [h1, h2, h] at this
  cases this
theorem Mid.inv {L0 L : List Ver} {t : Int} (m : Mid L0 t L) (i : Inv L0 t) (ht : -1 ≤ t) : Inv L (t + 1) := by
 refine ⟨m.r, fun v hv => ?_, fun a ha b hb h1 h2 h3 => ?_⟩
 ·rcases m.e v hv with q | ⟨q1, q2, q3, q4, q5, q6⟩
  ·exact (i.f v q).up (by omega)
  ·exact ⟨by omega, by omega, .inl ⟨q2, q3⟩, q4, q5⟩
 ·rcases m.e b hb with q | ⟨q1, q2, q3, q4, q5, q6⟩
  ·rcases m.e a ha with p | ⟨p1, p2⟩
   ·exact i.o a p b q h1 h2 h3
   ·have := (i.f b q).m
    omega
  ·rcases m.e a ha with p | ⟨p1, p2⟩
   ·have e := PE q6 p h1 h2
    have f := i.f a p
    have := f.m
    unfold there at e
    rw [Bool.and_eq_false_iff, Bool.or_eq_false_iff, decide_eq_false_iff_not, decide_eq_false_iff_not, decide_eq_false_iff_not] at e
    rcases f.s with s | s <;> omega
   ·omega
theorem B3 {L0 : List Ver} {t : Int} : ∀ (vs L : List Ver) (s : Int) (p : List Ver × Int), (∀ v ∈ vs, nQ (t + 1) v = true) → Mid L0 t L → mO L0 t vs L s = some p → Mid L0 t p.1 ∧ ∀ z, z ≤ t → iR z p.1 = iR z L
 | [], L, s, p, hv, m, h => by
  unfold mO at h
  injection h with h
  subst h
  exact ⟨m, fun z _ => rfl⟩
 | v :: vs, L, s, p, hv, m, h => by
  unfold mO at h
  by_cases c : ((atV L0 v.hash v.pn t).isSome || sD v L) = true
  ·rw [if_pos c] at h; cases h
  ·rw [if_neg c] at h
   rw [Bool.not_eq_true, Bool.or_eq_false_iff] at c
   have hf := hv v (List.mem_cons_self ..)
   unfold nQ lL at hf
   simp only [Bool.and_eq_true, decide_eq_true_eq] at hf
   obtain ⟨⟨⟨⟨f1, f2⟩, f3⟩, f4⟩, f5⟩ := hf
   have hn : atV L0 v.hash v.pn t = none := by
    cases e : atV L0 v.hash v.pn t with
    | none => rfl
    | some x => rw [e] at c; cases c.1
   obtain ⟨a, b⟩ := B3 vs (mP L v) _ p (fun w hw => hv w (List.mem_cons_of_mem _ hw)) ⟨GH m.r c.2, fun w hw => by
    rcases B4.1 hw with rfl | q
    ·exact .inr ⟨f1, f2, f3, f4.1, f4.2, hn⟩
    ·exact m.e w q⟩ h
   exact ⟨a, fun z hz => by rw [b z hz, OZ (by omega)]⟩
theorem C5 {t : Int} (ht : 0 ≤ t) : ∀ (ps : List Spd) (L : List Ver) (s : Int) (p : List Ver × Int), Inv L t → mZ t ps L s = some p → Inv p.1 t ∧ ∀ z, z < t → iR z p.1 = iR z L
 | [], L, s, p, i, h => by
  unfold mZ at h
  injection h with h
  subst h
  exact ⟨i, fun z _ => rfl⟩
 | q :: ps, L, s, p, i, h => by
  unfold mZ at h
  cases e : atV L q.hash q.pn t with
  | none => rw [e] at h; cases h
  | some w =>
   rw [e] at h
   simp only at h
   by_cases c : (decide (w.bZ = 0) && decide (1 ≤ t) && decide (w.made ≤ t)) = true
   ·rw [if_pos c] at h
    simp only [Bool.and_eq_true, decide_eq_true_eq] at c
    obtain ⟨⟨c1, c2⟩, c3⟩ := c
    obtain ⟨w1, w2, w3, w4⟩ := CI e
    have fw := i.f w w1
    have wb : w.by_ = z32 := by rcases fw.s with s | s; exact s.2; omega
    have i' : Inv (qB L w (gQ w t q.by_)) t := by
     refine ⟨G7 i.r w1 _ _, fun v hv => ?_, fun a ha b hb h1 h2 h3 => ?_⟩
     ·rcases rG hv with rfl | g
      ·exact ⟨fw.m0, fw.m, .inr ⟨(show 0 < t by omega), (show t ≤ t by omega), fw.m⟩, fw.v0, fw.v1⟩
      ·exact i.f v g
     ·rcases sY i.r w1 hb with rfl | ⟨b1, b2⟩
      ·rcases sY i.r w1 ha with rfl | ⟨a1, a2⟩
       ·omega
       ·exact i.o a a1 w w1 h1 h2 h3
      ·rcases sY i.r w1 ha with rfl | ⟨a1, a2⟩
       ·have := i.o w w1 b b1 h1 h2 h3
        omega
       ·exact i.o a a1 b b1 h1 h2 h3
    obtain ⟨x, y⟩ := C5 ht ps _ _ p i' h
    refine ⟨x, fun z hz => ?_⟩
    rw [y z hz]
    refine OY i.r w1 ?_
    unfold mE
    show (if z < w.made then _ else if z < t ∧ 0 < t then some (gQ (gQ w t q.by_) 0 z32) else _) = _
    by_cases c4 : z < w.made
    ·rw [if_pos c4, if_pos c4]
    ·rw [if_neg c4, if_neg c4, if_pos ⟨hz, by omega⟩, if_neg (by omega)]
     cases w
     simp only [gQ] at *
     rw [c1, wb]
   ·rw [if_neg c] at h; cases h
theorem C6 {L : List Ver} {I : List Inf} {A : App} {q : List Ver × List Inf} (i : Inv L (((I.length : Nat) : Int) - 1)) (h : fF L I A = some q) :
  Inv q.1 ((q.2.length : Nat) - 1) ∧ (∀ z, z ≤ ((I.length : Nat) : Int) - 1 → iR z q.1 = iR z L) ∧ ∃ x, q.2 = I ++ [x] ∧ x.bT = ((I.length : Nat) : Int) := by
 unfold fF at h
 split at h
 ·cases h
 ·rename_i hc
  rw [Bool.and_eq_true, decide_eq_true_eq] at hc
  obtain ⟨hk, hh⟩ := hc
  split at h
  ·cases h
  ·rename_i r hd
   split at h
   ·cases h
   ·injection h with h
    subst h
    unfold tY at hd
    split at hd
    ·rename_i r1 hp
     have hfit : ∀ v ∈ A.made, nQ (((I.length : Nat) : Int) - 1 + 1) v = true := fun v hv => by
      have := (yW hk v hv).2
      rw [hh] at this
      rw [Int.sub_add_cancel]
      exact this
     obtain ⟨m, c⟩ := B3 A.made L _ r1 hfit ⟨i.r, fun v hv => .inl hv⟩ hp
     have i1 := m.inv i (by omega)
     rw [Int.sub_add_cancel] at i1
     rw [hh] at hd
     obtain ⟨i2, c2⟩ := C5 (by omega) A.c8 r1.1 r1.2 r i1 hd
     refine ⟨?_, fun z hz => by rw [c2 z (by omega), c z hz], _, rfl, hh⟩
     rw [List.length_append]
     have : (((I.length + [mU I A r.2].length : Nat) : Int) - 1) = ((I.length : Nat) : Int) := by simp
     rw [this]
     exact i2
    ·cases hd
theorem pS {z : Int} {v u : Ver} (h : mE z v = some u) : v.made ≤ z ∧ ((u = v ∧ (v.bZ ≤ z ∨ v.bZ ≤ 0)) ∨ (u = gQ v 0 z32 ∧ z < v.bZ ∧ 0 < v.bZ)) := by
 unfold mE at h
 split at h
 ·cases h
 ·rename_i c
  split at h
  ·rename_i d
   injection h with h
   exact ⟨by omega, .inr ⟨h.symm, d⟩⟩
  ·rename_i d
   injection h with h
   exact ⟨by omega, .inl ⟨h.symm, by omega⟩⟩
theorem p8 {z : Int} {v u : Ver} (h : mE z v = some u) : u.hash = v.hash ∧ u.pn = v.pn ∧ u.made = v.made ∧ u.value = v.value ∧ u.aR = v.aR := by
 rcases (pS h).2 with ⟨rfl, _⟩ | ⟨rfl, _⟩ <;> exact ⟨rfl, rfl, rfl, rfl, rfl⟩
theorem P1 {L : List Ver} {t z : Int} (i : Inv L t) (hz : -1 ≤ z) : Inv (iR z L) z := by
 refine ⟨?_, fun u hu => ?_, fun a ha b hb h1 h2 h3 => ?_⟩
 ·unfold dM iR
  rw [List.pairwise_filterMap]
  refine i.r.imp fun {a b} hab x hx y hy => ?_
  obtain ⟨x1, x2, x3, _⟩ := p8 hx
  obtain ⟨y1, y2, y3, _⟩ := p8 hy
  show orI (nT x.hash x.pn y.hash y.pn) (kM x.made y.made) < 0
  rw [x1, x2, x3, y1, y2, y3]
  exact hab
 ·obtain ⟨v, hv, e⟩ := List.mem_filterMap.1 hu
  obtain ⟨k1, k2, k3, k4, k5⟩ := p8 e
  obtain ⟨c1, c2⟩ := pS e
  have f := i.f v hv
  refine ⟨by rw [k3]; exact f.m0, by omega, ?_, by rw [k4]; exact f.v0, by rw [k4]; exact f.v1⟩
  rcases c2 with ⟨rfl, c⟩ | ⟨rfl, c⟩
  ·rcases f.s with s | s
   ·exact .inl s
   ·exact .inr ⟨s.1, by omega, s.2.2⟩
  ·exact .inl ⟨rfl, rfl⟩
 ·obtain ⟨v, hv, e⟩ := List.mem_filterMap.1 ha
  obtain ⟨w, hw, g⟩ := List.mem_filterMap.1 hb
  obtain ⟨k1, k2, k3, k4, k5⟩ := p8 e
  obtain ⟨l1, l2, l3, l4, l5⟩ := p8 g
  have o := i.o v hv w hw (by rw [← k1, ← l1]; exact h1) (by rw [← k2, ← l2]; exact h2) (by omega)
  obtain ⟨c1, c2⟩ := pS e
  obtain ⟨d1, d2⟩ := pS g
  rcases c2 with ⟨rfl, c⟩ | ⟨rfl, c⟩
  ·omega
  ·omega
def Lev (I : List Inf) : Prop := ∀ (k : Nat) (hk : k < I.length), I[k].bT = ((k : Nat) : Int)
theorem Lev.none : Lev [] := fun k hk => by simp at hk
theorem Lev.snoc {I : List Inf} {x : Inf} (l : Lev I) (h : x.bT = ((I.length : Nat) : Int)) : Lev (I ++ [x]) := fun k hk => by
 by_cases c : k < I.length
 ·rw [List.getElem_append_left c]; exact l k c
 ·rw [List.length_append, List.length_singleton] at hk
  have : k = I.length := by omega
  subst this
  simp [h]
theorem Lev.take {I : List Inf} (l : Lev I) (n : Nat) : Lev (I.take n) := fun k hk => by
 rw [List.getElem_take]
 exact l k _
theorem Lev.find {I : List Inf} (l : Lev I) {k : Nat} (hk : k < I.length) : kG I ((k : Nat) : Int) = some I[k] := by
 unfold kG
 rw [List.find?_eq_some_iff_getElem]
 refine ⟨decide_eq_true (l k hk), k, hk, rfl, fun j hj => ?_⟩
 rw [Bool.not_eq_true', decide_eq_false_iff_not, l j (by omega)]
 omega
structure Sto (L : List Ver) (I : List Inf) (k : Nat) : Prop where
 i : Inv L (((I.length : Nat) : Int) - 1)
 l : Lev I
 n : L.length ≤ 20 * k
 m : I.length ≤ k
theorem Sto.none : Sto [] [] 0 := ⟨Inv.none, Lev.none, Nat.le_refl _, Nat.le_refl _⟩
theorem Sto.up {L : List Ver} {I : List Inf} {k j : Nat} (s : Sto L I k) (h : k ≤ j) : Sto L I j := ⟨s.i, s.l, by have := s.n; omega, by have := s.m; omega⟩
theorem B2 {L0 : List Ver} {t : Int} : ∀ (vs L : List Ver) (s : Int) (p : List Ver × Int), mO L0 t vs L s = some p → p.1.length = L.length + vs.length
 | [], L, s, p, h => by
  unfold mO at h
  injection h with h
  subst h
  rfl
 | v :: vs, L, s, p, h => by
  unfold mO at h
  by_cases c : ((atV L0 v.hash v.pn t).isSome || sD v L) = true
  ·rw [if_pos c] at h; cases h
  ·rw [if_neg c] at h
   rw [B2 vs _ _ p h, B5, List.length_cons]
   omega
theorem C4 {t : Int} : ∀ (ps : List Spd) (L : List Ver) (s : Int) (p : List Ver × Int), mZ t ps L s = some p → p.1.length = L.length
 | [], L, s, p, h => by
  unfold mZ at h
  injection h with h
  subst h
  rfl
 | q :: ps, L, s, p, h => by
  unfold mZ at h
  cases e : atV L q.hash q.pn t with
  | none => rw [e] at h; cases h
  | some w =>
   rw [e] at h
   simp only at h
   by_cases c : (decide (w.bZ = 0) && decide (1 ≤ t) && decide (w.made ≤ t)) = true
   ·rw [if_pos c] at h
    rw [C4 ps _ _ p h, vB]
   ·rw [if_neg c] at h; cases h
theorem LG {L : List Ver} {I : List Inf} {A : App} {q : List Ver × List Inf} (h : fF L I A = some q) : q.1.length = L.length + A.made.length := by
 unfold fF at h
 split at h
 ·cases h
 ·split at h
  ·cases h
  ·rename_i r hd
   split at h
   ·cases h
   ·injection h with h
    subst h
    unfold tY at hd
    split at hd
    ·rename_i r1 hp
     rw [C4 _ _ _ _ hd, B2 _ _ _ _ hp]
    ·cases hd
def HD (L : List Ver) (I : List Inf) (A : App) : List Ver × List Inf := (fF L I A).getD (L, I)
theorem Sto.got {L : List Ver} {I : List Inf} {k : Nat} (s : Sto L I k) (A : App) (hA : A.made.length ≤ 20) : Sto (HD L I A).1 (HD L I A).2 (k + 1) := by
 unfold HD
 cases e : fF L I A with
 | none => exact s.up (by omega)
 | some q =>
  obtain ⟨a, b, x, c, d⟩ := C6 s.i e
  have hl := LG e
  have h1 := s.n
  have h2 := s.m
  show Sto q.1 q.2 (k + 1)
  exact ⟨a, by rw [c]; exact s.l.snoc d, by omega, by rw [c, List.length_append, List.length_singleton]; omega⟩
theorem Sto.cut {L : List Ver} {I : List Inf} {k : Nat} (s : Sto L I k) {z : Int} (h1 : -1 ≤ z) (h2 : z ≤ ((I.length : Nat) : Int) - 1) : Sto (iR z L) (I.take (z + 1).toNat) k := by
 have hl : (I.take (z + 1).toNat).length = (z + 1).toNat := by rw [List.length_take]; omega
 have h3 := s.n
 have h4 := s.m
 have h5 : (iR z L).length ≤ L.length := List.length_filterMap_le _ _
 refine ⟨?_, s.l.take _, by omega, by omega⟩
 rw [hl, show (((z + 1).toNat : Nat) : Int) - 1 = z by omega]
 exact P1 s.i h1
theorem wG (o : OpS) (tip : Int) : (kL o tip).made.length = o.A.made.length := by
 unfold kL
 cases o.next <;> simp
theorem LF {o : OpS} {tip : Int} (h : ∀ v ∈ o.A.made, 0 ≤ v.pn) : ∀ v ∈ (kL o tip).made, 0 ≤ v.pn := fun v hv => by
 unfold kL at hv
 cases hn : o.next with
 | false => rw [hn] at hv; exact h v hv
 | true =>
  rw [hn] at hv
  obtain ⟨w, hw, rfl⟩ := List.mem_map.1 hv
  exact h w hw
theorem WJ {A : App} {mv sv : a9} (h : rA A mv sv) : ∀ v ∈ A.made, 0 ≤ v.pn := fun v hv => by
 obtain ⟨j, hj, rfl⟩ := List.mem_iff_getElem.1 hv
 obtain ⟨xs, hm⟩ := h.m
 obtain ⟨w, _, a⟩ := hm.at_ j hj
 exact a.pn
theorem ED {a : a9} {os : List OpS} {xs : List a9} {i : Nat} {o : OpS} {mv sv : a9} {h : Hp} {n : Nat} (ha : xD a os xs) (hi : i < os.length) (e : (xs.drop (i * 40)).take 40 = dL o mv sv) :
  Rd (load env 105 (addrOf (i * 40) a)) h n (rid a) (.agg (dL o mv sv)) := by
 have hr0 := ha.rd h
 have hld := hr0.agg (E := env) (n := n) (k := i * 40) xZ rfl (by decide) (by show i * 40 + 40 ≤ _; rw [hr0.length]; omega)
 have e' : (xs.drop (i * 40)).take 40 = dL o mv sv := e
 exact e' ▸ hld
theorem RM {o : OpS} {mv sv : a9} {ys zs : List a9} (hm : CP mv o.A.made ys) (hs : FY sv o.A.c8 zs) : (dL o mv sv).all bN = true := by
 have a := ((hm.rd (fun _ => none)).kind).2.1
 have b := ((hs.rd (fun _ => none)).kind).2.1
 unfold dL
 rw [List.all_cons, List.all_append, jX a b]; rfl
theorem TS (Q : eJ) (ks : List Kf) (a : a9) (os : List OpS) (xs : List a9) (W : Nat → Prop) (s n0 : Nat) (h0 : Hp) (ha : xD a os xs) (hg : nL os = false) (hn0 : n0 ≤ s)
  (hT : ∀ (h : Hp) (n : Nat) (L : List Ver) (I : List Inf) (x0 x2 x5 x10 x14 x15 x23 : a9), St W h n s L I → Sto L I os.length → bO h n → (∀ j, j < n0 → h j = h0 j) →
   dV env 58 none Q ks (.exit 0) (x0 :: a9.aA :: x2 :: .ptr s 0 :: a9.aA :: x5 :: a9.aA :: a :: .int .i64 (os.length : Nat) :: .int .i64 (os.length : Nat) :: x10 :: a9.aA :: a9.aA :: a9.aA :: x14 :: x15 :: a9.aA :: a9.aA :: a9.aA :: a9.aA :: a9.aA :: a9.aA :: a9.aA :: x23 :: a9.aA :: a9.aA :: a9.aA :: a9.aA :: a9.aA :: a9.aA :: a9.aA :: []) h n) :
  ∀ (m i : Nat) (h : Hp) (n : Nat) (L : List Ver) (I : List Inf) (x0 x2 x5 x10 x14 x15 x23 : a9), i + m = os.length → St W h n s L I → Sto L I i → bO h n → (∀ j, j < n0 → h j = h0 j) →
   Run env 58 none Q (.loop DH) ks (x0 :: a9.aA :: x2 :: .ptr s 0 :: a9.aA :: x5 :: a9.aA :: a :: .int .i64 (os.length : Nat) :: .int .i64 (i : Nat) :: x10 :: a9.aA :: a9.aA :: a9.aA :: x14 :: x15 :: a9.aA :: a9.aA :: a9.aA :: a9.aA :: a9.aA :: a9.aA :: a9.aA :: x23 :: a9.aA :: a9.aA :: a9.aA :: a9.aA :: a9.aA :: a9.aA :: a9.aA :: []) h n := by
 obtain ⟨g1, g2⟩ := nK hg
 intro m
 induction m with
 | zero =>
  intro i h n L I x0 x2 x5 x10 x14 x15 x23 hm hs hS hf ho
  have : i = os.length := by omega
  subst this
  rw [cF]
  have hcc : ¬ (((os.length : Nat) : Int) < ((os.length : Nat) : Int)) := by omega
  simp only [DH, bS, Try.f58, Option.getD_some, aC, fgr, execOp, opd, aD, put, nth, aB, bor, aJ, aK, intOp, List.getD_cons_zero, hcc, gL, gB]
  exact hT h n L I _ _ _ _ _ _ _ hs hS hf ho
 | succ m ih =>
  intro i h n L I x0 x2 x5 x10 x14 x15 x23 hm hs hS hf ho
  have hil : i < os.length := by omega
  have hcc : (((i : Nat) : Int) < ((os.length : Nat) : Int)) := by omega
  have w1 : IntKind.i64.wrap (((i : Nat) : Int) + 1) = ((i + 1 : Nat) : Int) := by rw [w64 (by omega) (by omega)]; omega
  obtain ⟨mv, sv, e, hA, hw⟩ := ha.at_ i hil
  have hr0 := ha.rd h
  have hmem : os[i] ∈ os := List.getElem_mem hil
  generalize hoi : os[i] = o at *
  obtain ⟨g3, g4, g5⟩ := g2 o hmem
  have hld := ED (h := h) (n := n) ha hil e
  have hAA := hA
  obtain ⟨⟨ys, hm1⟩, ⟨zs, hs1⟩, hb⟩ := hAA
  have sl := hS.n
  have sm := hS.m
  rw [cF]
  simp only [DH, bS, Try.f58, Option.getD_some, aC, fgr, execOp, opd, aD, put, nth, aB, bor, aJ, aK, intOp, List.getD_cons_zero, hcc, gL, gB]
  rw [aM (hr0.idx (j := i) AR HY rfl hil)]
  simp only [aC, execOp, opd, aD, put, nth]
  rw [aM hld]
  simp only [aC, execOp, aD, put]
  rw [cD xZ rfl]
  simp only [aC, execOp, opd, aD, put, nth, cel]
  refine dQ (v := .agg (dL o mv sv)) xZ rfl (oJ hb) (RM hm1 hs1) hf fun H1 r1 p1 f1 => ?_
  replace r1 : Row H1 n (dL o mv sv) := r1
  have s1 := hs.old (n' := n + 1) (by omega) (fun j hj => p1 j (by omega))
  have sn := hs.sn
  have ho1 : ∀ j, j < n0 → H1 j = h0 j := fun j hj => by rw [p1 j (by omega), ho j hj]
  simp only [aC, tyr, fgr, execOp, opd, aD, put, nth, aB, und, sizeOf, aZ, aS, fieldAddr, gL, gI]
  rw [aM (GJ r1)]
  simp only [aC, fgr, execOp, opd, ofValue, aD, put, nth, aB, bor, aJ, aK, intOp, gB, gI]
  by_cases c0 : o.kind = 0
  ·simp only [aC, decide_true, c0]
   refine cG ⟨rfl, ?_⟩
   simp only [aF, aI, execOp, opd, aD, put, nth, gI]
   rw [bP (J9 r1 hb)]
   simp only [aF, aI, hkr, execOp, opd, bG, aD, put, nth, aL, aE, Nat.reduceAdd, gL]
   rw [bP (RC s1 (by omega))]
   simp only [aF, hkr, execOp, opd, bG, aD, put, nth, aL, aE, Nat.reduceAdd, gL]
   refine eF f1 (f59 o _ mv sv H1 _ hA (by omega) (by omega) (fun v hv => by have := g5 v hv; omega) f1) fun v2 h2 n2 r2 w2 hn2 f2 ⟨mv2, sv2, e2, a2, o2⟩ => ?_
   subst e2
   have s2 := s1.old hn2 o2
   have ho2 : ∀ j, j < n0 → h2 j = h0 j := fun j hj => by rw [o2 j (by omega), ho1 j hj]
   simp only [aF, hkr, execOp, opd, bG, aD, put, nth, aL, aE, Nat.reduceAdd, gL]
   refine eF f2 (f19 s2 (kL o _) mv2 sv2 (n + 1) n2 a2 (Nat.le_refl _) (fun j q1 q2 w => ?_) (LF (WJ hA)) (by omega) (by rw [wG]; omega) f2) fun v3 h3 n3 r3 w3 hn3 f3 ⟨e3, o3, s3⟩ => ?_
   ·obtain ⟨x, lv, _, _, _, _, _, c⟩ := hs
    have := c j w
    omega
   subst e3
   have hS3 := hS.got (kL o (((I.length : Nat) : Int) - 1)) (by rw [wG]; exact g3)
   have ho3 : ∀ j, j < n0 → h3 j = h0 j := fun j hj => by rw [o3 j (by omega) (by omega), ho2 j hj]
   simp only [bY, aC, fgr, execOp, opd, ofValue, aD, put, nth, aB, bor, aJ, aK, intOp, bU, Nat.reduceAdd, gB]
   refine ⟨(by (try simp (disch := first | assumption | omega) only [dF, List.all_cons, List.all_nil, gB, gF]); repeat' (first | rfl | exact (Bool.or_eq_true _ _).mpr (.inr rfl) | refine (Bool.and_eq_true _ _).mpr ⟨?_, ?_⟩)), ?_⟩
   simp only [w1]
   exact ih (i + 1) h3 n3 _ _ _ _ _ _ _ _ _ (by omega) s3 hS3 f3 ho3
  by_cases c1 : o.kind = 1
  ·simp only [aC, tyr, fgr, execOp, opd, ofValue, aD, put, nth, aB, und, sizeOf, bor, aJ, aK, intOp, aZ, aS, fieldAddr, Int.reduceEq, beq_self_eq_true, c1, gL, gB, gI]
   rw [aM (J7 r1 hb)]
   simp only [aC, hkr, execOp, opd, bG, aD, put, nth, aL, aE, gL]
   refine bF f1 (f22 s1 o.num (by omega) (by omega) f1) fun v2 h2 n2 hn2 f2 ⟨o2, hh⟩ => ?_
   have ho2 : ∀ j, j < n0 → h2 j = h0 j := fun j hj => by rw [o2 j (by omega) (by omega), ho1 j hj]
   rcases hh with ⟨_, e2, s2⟩ | ⟨q1, q2, e2, s2⟩
   ·subst e2
    simp only [aC, fgr, execOp, opd, ofValue, aD, put, nth, aB, bor, aJ, aK, intOp, bU, w1, gB]
    exact ih (i + 1) h2 n2 L I _ _ _ _ _ _ _ (by omega) s2 (hS.up (by omega)) f2 ho2
   ·subst e2
    simp only [aC, fgr, execOp, opd, ofValue, aD, put, nth, aB, bor, aJ, aK, intOp, bU, w1, gB]
    exact ih (i + 1) h2 n2 _ _ _ _ _ _ _ _ _ (by omega) s2 ((hS.cut q1 q2).up (by omega)) f2 ho2
  simp only [aC, fgr, execOp, opd, ofValue, aD, put, nth, aB, bor, aJ, aK, intOp, bU, c0, c1, w1, gB, gI]
  exact ih (i + 1) H1 (n + 1) L I _ _ _ _ _ _ _ (by omega) s1 (hS.up (by omega)) f1 ho1
theorem f58 (a : a9) (os : List OpS) (xs : List a9) (h : Hp) (n : Nat) (ha : xD a os xs) (hg : nL os = false) (hf : bO h n) :
  Wp (bD env (evalW env) 58 [a]) h n fun v' h' n' => ∃ s L I, v' = .ptr s 0 ∧ n ≤ s ∧ St (fun j => j = s) h' n' s L I ∧ Sto L I 30 ∧ Old h h' n := by
 obtain ⟨g1, g2⟩ := nK hg
 have hr0 := ha.rd
 refine bL ff58 fi58 ?_
 simp only [V0, Try.f58, Option.getD_some, List.replicate, aC, fgr, hkr, execOp, opd, bG, ofValue, aD, put, aB, aL, aE, ended, aT, aU, Nat.reduceSub, gL, gI]
 refine bF hf (f26 (fun _ => False) h n hf (fun _ w => w.elim)) fun v1 h1 n1 hn1 f1 ⟨s, e1, hx, s1, o1⟩ => ?_
 subst e1
 have s1' : St (fun j => j = s) h1 n1 s [] [] := by
  have : (fun j => False ∨ j = s) = fun j => j = s := funext fun j => propext ⟨fun q => q.elim (fun q => q.elim) id, .inr⟩
  rw [← this]
  exact s1
 simp only [aC, fgr, execOp, opd, bG, ofValue, aD, put, nth, aB, aL, builtin, dH, (hr0 h1).cY AR]
 refine TS _ _ a os xs (fun j => j = s) s n h1 ha hg hx ?_ os.length 0 h1 n1 [] [] _ _ _ _ _ _ _ (by omega) s1' Sto.none f1 (fun j hj => rfl)
 intro h2 n2 L I x0 x2 x5 x10 x14 x15 x23 s2 hS f2 ho
 simp only [aC, fgr, execOp, opd, aD, put, nth, aB, gB]
 exact ⟨s, L, I, rfl, hx, s2, hS.up g1, fun j hj => by rw [ho j hj, o1 j hj]⟩
def hb_ (x : UInt8) : List UInt8 := x :: List.replicate 31 0
def nw (pn made value : Int) (s : List UInt8) : Ver := ⟨z0, pn, made, value, s, false, 0, z0⟩
theorem JO (pn made value : Int) (s : List UInt8) : (nw pn made value s).Ok := ⟨rfl, rfl⟩
theorem f16 (k : Int) (h : Hp) (n : Nat) (hf : bO h n) : Wp (bD env (evalW env) 16 [.int .u32 k]) h n fun v' h' n' => v' = .agg (aY z0 k) ∧ Old h h' n := by
 have b28 : build env 28 [(1, .int .u32 k)] = M.pure (.agg (aY z0 k)) := rfl
 refine bL ff16 fi16 ?_
 simp only [VM, Try.f16, Option.getD_some, List.replicate, aC, execOp, ended, aT, aU, Nat.reduceSub, gL, gI]
 rw [cD iK rfl]
 obtain ⟨H1, hH1⟩ : ∃ H1, H1 = upd h n (some (.row (.l G0.i.zero.cells) 28)) := ⟨_, rfl⟩
 have g1 : H1 n = some (.row (.l G0.i.zero.cells) 28) := by rw [hH1, aW]
 have o1 : ∀ j, j ≠ n → H1 j = h j := fun j hj => by rw [hH1, aP _ _ hj]
 show Ops _ _ _ _ _ _ _ _ (upd h n (some (.row (.l G0.i.zero.cells) 28))) _
 rw [← hH1]
 clear hH1
 simp only [aC, fgr, execOp, opd, dE, aD, put, nth, aB, b28]
 rw [dR (Row.write (off := 0) (v := .agg (aY z0 k)) g1 iK (cA rfl) (by decide) (qQ _ _))]
 rw [dZ (by rfl)]
 simp only [aC, fgr, aD, nth, aB, cel, true_and]
 refine eQ (Row.whole (cs := aY z0 k) ⟨28, aW _ _ _⟩ iK rfl (cA rfl)) (wp_pure.2 ?_)
 exact ⟨rfl, fun j hj => by rw [aP _ _ (by omega), o1 j (by omega)]⟩
theorem I2 {h : Hp} {a b id cnt : Nat} {vs : List Ver} {cells : List a9} (hh : h id = some (.row (.l cells) 31)) (hl : vs.length = cnt) (v : Vs h (fun j => a ≤ j ∧ j < b ∧ j ≠ id) cells vs) (h1 : a ≤ id) (h2 : id < b) : VL h a b (.sl id 0 cnt (some cnt) 70) vs := by
 subst hl
 have e := v.len
 exact ⟨cells, .sl id _ (some vs.length) cells cells hh (by omega) (fun k q => by injection q with q; omega) (by rw [List.take_of_length_le (by omega)]), v.mono (fun j q => ⟨q.1, q.2.1, fun w => by injection w with w; exact q.2.2 w.symm⟩) (fun j q => rfl), fun j q => by injection q with q; omega⟩
theorem RE {h : Hp} {a b id cnt : Nat} {ss : List Spd} {cells : List a9} (hh : h id = some (.row (.l cells) 48)) (hl : ss.length = cnt) (he : cells.length = cnt * 65) (hs : ∀ (j : Nat) (hj : j < ss.length), (cells.drop (j * 65)).take 65 = fB ss[j] ∧ ss[j].Ok) (h1 : a ≤ id) (h2 : id < b) : SL h a b (.sl id 0 cnt (some cnt) 65) ss := by
 subst hl
 exact ⟨cells, .sl id _ (some ss.length) cells cells hh (by omega) (fun k q => by injection q with q; omega) (by rw [List.take_of_length_le (by omega)]), hs, fun j q => by injection q with q; omega⟩
theorem N8 {h : Hp} {a b : Nat} : SL h a b .aV [] := ⟨[], .nil, fun j hj => by simp at hj, fun j q => by cases q⟩
def VV : App := ⟨0, hb_ 1, [nw 1 0 50 [115]], [], 0, 0⟩
def L9 : App := ⟨1, hb_ 2, [nw 2 1 30 [115], nw 3 1 20 [116]], [⟨z0, 1, hb_ 9⟩], 3, 4⟩
def A8 : Inf := ⟨0, hb_ 1, 1, 50, 0, 0⟩
def tJ : Inf := ⟨1, hb_ 2, 2, 50, 3, 4⟩
def OV : List Ver := [gQ (nw 1 0 50 [115]) 1 (hb_ 9), nw 2 1 30 [115], nw 3 1 20 [116]]
theorem ex_1 : fF [] [] VV = some ([nw 1 0 50 [115]], [A8]) := by kernel_rfl
theorem ex_2 : fF [nw 1 0 50 [115]] [A8] L9 = some (OV, [A8, tJ]) := by kernel_rfl
theorem ad6 : build env 25 [(0, .int .u8 1)] = M.pure (.agg ((hb_ 1).map u8)) := rfl
theorem Q7 : build env 25 [(0, .int .u8 2)] = M.pure (.agg ((hb_ 2).map u8)) := rfl
theorem ad5 : build env 25 [(0, .int .u8 9)] = M.pure (.agg ((hb_ 9).map u8)) := rfl
theorem b31a (n : Nat) (k value : Int) (s : List UInt8) : build env 31 [(0, .agg (aY z0 k)), (2, .int .i64 value), (3, .sl n 0 1 (some 1) 1)] = M.pure (.agg (aO (nw k 0 value s) (.sl n 0 1 (some 1) 1))) := rfl
theorem ad4 (n : Nat) (k made value : Int) (s : List UInt8) : build env 31 [(0, .agg (aY z0 k)), (1, .int .i64 made), (2, .int .i64 value), (3, .sl n 0 1 (some 1) 1)] = M.pure (.agg (aO (nw k made value s) (.sl n 0 1 (some 1) 1))) := rfl
theorem b46a (b : UInt8) (n : Nat) : build env 46 [(1, .agg ((hb_ b).map u8)), (2, .sl n 0 1 (some 1) 70)] = M.pure (.agg (bK ⟨0, hb_ b, [], [], 0, 0⟩ (.sl n 0 1 (some 1) 70) .aV)) := rfl
theorem VZ {X Y : List a9} (hX : X.length = 70) (hY : Y.length = 70) : buildSlice env 43 2 [(0, .agg X), (1, .agg Y)] = (newRow env 31 (X ++ Y)).bind fun id => M.pure (.sl id 0 2 (some 2) 70) := by
 have e1 : fill (fun k => some (k * 70, 70)) (fQ fG.i.zero.cells 2) [(0, .agg X), (1, .agg Y)] = some (X ++ Y) := by
  have : fQ fG.i.zero.cells 2 = [] ++ fG.i.zero.cells ++ fG.i.zero.cells := rfl
  rw [this, hO (off := 0) (sz := 70) (pre := []) (mid := fG.i.zero.cells) (post := fG.i.zero.cells) (v := .agg X) (rest := [(1, .agg Y)]) rfl rfl rfl hX rfl]
  have e : ([] ++ (a9.agg X).cells ++ fG.i.zero.cells) = X ++ fG.i.zero.cells ++ [] := by simp [a9.cells]
  rw [e, hO (off := 70) (sz := 70) (pre := X) (mid := fG.i.zero.cells) (post := []) (v := .agg Y) (rest := []) rfl hX rfl hY rfl]
  simp [fill, a9.cells]
 have e2 : buildSlice env 43 2 [(0, .agg X), (1, .agg Y)] = (aZ "buildSlice" (fill (fun k => some (k * 70, 70)) (fQ fG.i.zero.cells 2) [(0, .agg X), (1, .agg Y)])).bind fun cs => (newRow env 31 cs).bind fun id => M.pure (.sl id 0 2 (some 2) 70) := rfl
 rw [e2, e1]
 rfl
theorem bs44 {X : List a9} (hX : X.length = 65) : buildSlice env 44 1 [(0, .agg X)] = (newRow env 48 X).bind fun id => M.pure (.sl id 0 1 (some 1) 65) := by
 have e1 : fill (fun k => some (k * 65, 65)) (fQ zG.i.zero.cells 1) [(0, .agg X)] = some X := by
  have : fQ zG.i.zero.cells 1 = [] ++ zG.i.zero.cells ++ [] := rfl
  rw [this, hO (off := 0) (sz := 65) (pre := []) (mid := zG.i.zero.cells) (post := []) (v := .agg X) (rest := []) rfl rfl rfl hX rfl]
  simp [fill, a9.cells]
 have e2 : buildSlice env 44 1 [(0, .agg X)] = (aZ "buildSlice" (fill (fun k => some (k * 65, 65)) (fQ zG.i.zero.cells 1) [(0, .agg X)])).bind fun cs => (newRow env 48 cs).bind fun id => M.pure (.sl id 0 1 (some 1) 65) := rfl
 rw [e2, e1]
 rfl
theorem b48a (k : Int) (b : UInt8) : build env 48 [(0, .agg (aY z0 k)), (1, .agg ((hb_ b).map u8))] = M.pure (.agg (fB ⟨z0, k, hb_ b⟩)) := rfl
theorem b46b (b : UInt8) (n m : Nat) (bT eW left : Int) : build env 46 [(0, .int .i64 bT), (1, .agg ((hb_ b).map u8)), (4, .int .i64 eW), (5, .int .i64 left), (2, .sl n 0 2 (some 2) 70), (3, .sl m 0 1 (some 1) 65)] = M.pure (.agg (bK ⟨bT, hb_ b, [], [], eW, left⟩ (.sl n 0 2 (some 2) 70) (.sl m 0 1 (some 1) 65))) := rfl
end Go.Am.Ytlgebaofkolkoaa
set_option linter.unusedSimpArgs false
set_option linter.unusedVariables false
set_option linter.defProp false
set_option maxRecDepth 10000
namespace Go.Am.Ytlgebaofkolkoaa
open Go Go.Am Go.Proofs
theorem f14 (W : Nat → Prop) (h : Hp) (n : Nat) (hf : bO h n) (hw : ∀ j, W j → j < n) : Wp (bD env (evalW env) 14 []) h n fun v' h' n' => ∃ s, v' = .ptr s 0 ∧ n ≤ s ∧ St (fun j => W j ∨ j = s) h' n' s OV [A8, tJ] ∧ Old h h' n := by
 refine bL ff14 fi14 ?_
 simp only [VO, Try.f14, Option.getD_some, List.replicate, aC, fgr, hkr, execOp, opd, bG, ofValue, aD, put, aB, aL, aE, ended, aT, aU, Nat.reduceSub, gL, gI]
 refine bF hf (f26 W h n hf hw) fun v1 h1 n1 hn1 f1 ⟨s, e1, hx, s1, o1⟩ => ?_
 subst e1
 have sn := s1.sn
 simp only [aC, fgr, hkr, execOp, opd, bG, ofValue, dE, aD, put, nth, aB, aL, aE, ad6, gL]
 refine bF f1 (f16 1 h1 n1 f1) fun v2 h2 n2 hn2 f2 ⟨e2, o2⟩ => ?_
 subst e2
 simp only [aC, tyr, execOp, opd, ofValue, dE, aD, put, und, cel, aZ, Nat.beq, buildSlice, fQ, fill, List.take_zero, List.drop_succ_cons, List.drop_zero, Nat.ble, Nat.one_mul, gL, gB, gI]
 refine j4 ti5 f2 (f := fun id => a9.sl id 0 1 (some 1) 1) fun H3 r3 o3 f3 => ?_
 have bb3 : Bytes H3 (.sl n2 0 1 (some 1) 1) [115] := Bytes.fresh (l := [115]) r3
 simp only [aC, tyr, execOp, opd, ofValue, dE, aD, put, nth, und, lenOf, dG, cW, cX, Nat.beq, reduceCtorEq, Option.some.injEq, exists_eq_left', ne_eq, convert, hU, qC, r3, l9 r3, uZ, show (Nat.blt 0 1) = true from rfl, b31a _ _ _ [115], HR (bM (v := nw 1 0 50 [115]) rfl rfl), gB]
 refine j4 dY f3 (f := fun id => a9.sl id 0 1 (some 1) 70) fun H4 r4 o4 f4 => ?_
 simp only [aC, hkr, execOp, opd, bG, dE, aD, put, nth, aL, aE, b46a, gL]
 have bb4 := bb3.aX (h' := H4) fun j q => o4 j (by injection q with q; omega)
 have v4 : VL H4 n1 (n2 + 1 + 1) (.sl (n2 + 1) 0 1 (some 1) 70) [nw 1 0 50 [115]] := I2 r4 rfl ((Vs.nil H4 _).snoc bb4 (JO _ _ _ _) fun i q => by injection q with q; omega) (by omega) (by omega)
 have a4 : jN H4 n1 (n2 + 1 + 1) VV (.sl (n2 + 1) 0 1 (some 1) 70) .aV := ⟨v4, N8, rfl, by decide, by decide⟩
 have s4 := s1.old (n' := n2 + 1 + 1) (by omega) (h' := H4) fun j hj => by rw [o4 j (by omega), o3 j (by omega), o2 j hj]
 have nW : ∀ j, n1 ≤ j → ¬ (W j ∨ j = s) := fun j q w => by
  rcases w with w | w
  ·have := hw j w; omega
  ·omega
 refine bF f4 (f19 s4 VV _ _ n1 (n2 + 1 + 1) a4 (Nat.le_refl _) (fun j q1 q2 => nW j q1) (by decide) (by decide) (by decide) f4) fun v5 h5 n5 hn5 f5 ⟨e5, o5, s5⟩ => ?_
 rw [ex_1] at e5 s5
 subst e5
 simp only [Option.getD_some] at s5
 have oo5 : ∀ j, j < n → h5 j = h j := fun j hj => by rw [o5 j (by omega) (by omega), o4 j (by omega), o3 j (by omega), o2 j (by omega), o1 j hj]
 simp only [aC, fgr, execOp, opd, ofValue, dE, aD, put, nth, aB, EE]
 simp only [aC, hkr, execOp, opd, bG, ofValue, aD, put, aL, aE, Q7, gL]
 refine bF f5 (f16 2 h5 n5 f5) fun v6 h6 n6 hn6 f6 ⟨e6, o6⟩ => ?_
 subst e6
 simp only [aC, tyr, execOp, opd, ofValue, dE, aD, put, und, cel, aZ, Nat.beq, buildSlice, fQ, fill, List.take_zero, List.drop_succ_cons, List.drop_zero, Nat.ble, Nat.one_mul, gL, gB, gI]
 refine j4 ti5 f6 (f := fun id => a9.sl id 0 1 (some 1) 1) fun H7 r7 o7 f7 => ?_
 have bb7 : Bytes H7 (.sl n6 0 1 (some 1) 1) [115] := Bytes.fresh (l := [115]) r7
 simp only [aC, tyr, hkr, execOp, opd, bG, ofValue, dE, aD, put, nth, aL, aE, und, lenOf, dG, cW, cX, Nat.beq, reduceCtorEq, Option.some.injEq, exists_eq_left', ne_eq, convert, hU, qC, r7, l9 r7, uZ, show (Nat.blt 0 1) = true from rfl, ad4 _ _ _ _ [115], gL, gB]
 refine bF f7 (f16 3 H7 _ f7) fun v8 h8 n8 hn8 f8 ⟨e8, o8⟩ => ?_
 subst e8
 have bb8 := bb7.aX (h' := h8) fun j q => o8 j (by injection q with q; omega)
 simp only [aC, tyr, execOp, opd, ofValue, dE, aD, put, und, cel, aZ, Nat.beq, buildSlice, fQ, fill, List.take_zero, List.drop_succ_cons, List.drop_zero, Nat.ble, Nat.one_mul, gL, gB, gI]
 refine j4 ti5 f8 (f := fun id => a9.sl id 0 1 (some 1) 1) fun H9 r9 o9 f9 => ?_
 have bb9 : Bytes H9 (.sl n8 0 1 (some 1) 1) [116] := Bytes.fresh (l := [116]) r9
 have bc9 := bb8.aX (h' := H9) fun j q => o9 j (by injection q with q; omega)
 simp only [aC, tyr, execOp, opd, ofValue, dE, aD, put, nth, und, lenOf, dG, cW, cX, Nat.beq, reduceCtorEq, Option.some.injEq, exists_eq_left', ne_eq, convert, hU, qC, r9, l9 r9, uZ, show (Nat.blt 0 1) = true from rfl, ad4 _ _ _ _ [116], VZ (bM (v := nw 2 1 30 [115]) rfl rfl) (bM (v := nw 3 1 20 [116]) rfl rfl), gB]
 refine j4 dY f9 (f := fun id => a9.sl id 0 2 (some 2) 70) fun H10 r10 o10 f10 => ?_
 have bb10 := bb9.aX (h' := H10) fun j q => o10 j (by injection q with q; omega)
 have bc10 := bc9.aX (h' := H10) fun j q => o10 j (by injection q with q; omega)
 simp only [aC, hkr, execOp, opd, bG, ofValue, aD, put, aL, aE, gL]
 refine bF f10 (f16 1 H10 _ f10) fun v11 h11 n11 hn11 f11 ⟨e11, o11⟩ => ?_
 subst e11
 simp only [aC, execOp, opd, ofValue, dE, aD, put, nth, ad5, b48a, bs44 (lF (s := ⟨z0, 1, hb_ 9⟩) ⟨rfl, rfl⟩)]
 refine j4 xI f11 (f := fun id => a9.sl id 0 1 (some 1) 65) fun H12 r12 o12 f12 => ?_
 simp only [aC, hkr, execOp, opd, bG, ofValue, dE, aD, put, nth, aL, aE, b46b, gL]
 have t12 : ∀ j, j < n8 + 1 + 1 → H12 j = H10 j := fun j hj => by rw [o12 j (by omega), o11 j (by omega)]
 have bb12 := bb10.aX (h' := H12) fun j q => t12 j (by injection q with q; omega)
 have bc12 := bc10.aX (h' := H12) fun j q => t12 j (by injection q with q; omega)
 have r12' : H12 (n8 + 1) = some (.row (.l (aO (nw 2 1 30 [115]) (.sl n6 0 1 (some 1) 1) ++ aO (nw 3 1 20 [116]) (.sl n8 0 1 (some 1) 1))) 31) := (t12 _ (by omega)).trans r10
 have v12 : VL H12 n5 (n11 + 1) (.sl (n8 + 1) 0 2 (some 2) 70) L9.made := I2 r12' rfl (((Vs.nil H12 _).snoc bc12 (JO 2 1 30 _) fun i q => by injection q with q; omega).snoc bb12 (JO 3 1 20 _) fun i q => by injection q with q; omega) (by omega) (by omega)
 have a12 : jN H12 n5 (n11 + 1) L9 (.sl (n8 + 1) 0 2 (some 2) 70) (.sl n11 0 1 (some 1) 65) := ⟨v12, RE r12 rfl rfl (fun j hj => by
  have : j = 0 := by have : L9.c8.length = 1 := rfl; omega
  subst this
  exact ⟨rfl, rfl, rfl⟩) (by omega) (by omega), rfl, by decide, by decide⟩
 have x12 : ∀ j, j < n5 → H12 j = h5 j := fun j hj => by rw [t12 j (by omega), o10 j (by omega), o9 j (by omega), o8 j (by omega), o7 j (by omega), o6 j hj]
 have s12 := s5.old (n' := n11 + 1) (by omega) (h' := H12) x12
 refine bF f12 (f19 s12 L9 _ _ n5 (n11 + 1) a12 (Nat.le_refl _) (fun j q1 q2 => nW j (by omega)) (by decide) (by decide) (by decide) f12) fun v13 h13 n13 hn13 f13 ⟨e13, o13, s13⟩ => ?_
 rw [ex_2] at e13 s13
 subst e13
 simp only [Option.getD_some] at s13
 simp only [aC, fgr, execOp, opd, ofValue, aD, put, nth, aB, bor, aJ, aK, intOp, bC, branch, bne_self_eq_false, EE, gL, gB]
 refine ⟨s, rfl, hx, s13, fun j hj => by rw [o13 j (by omega) (by omega), x12 j (by omega), oo5 j hj]⟩
def eqI (a b : Inf) : Bool := (a.bT == b.bT) && (decide (a.block = b.block) && ((a.jD == b.jD) && ((a.total == b.total) && ((a.eW == b.eW) && (a.left == b.left)))))
theorem LA (a : Inf) : eqI a a = true := by simp [eqI]
theorem yJ {i : Inf} (hb : i.block.length = 32) : part env 25 (bX i) 1 = M.pure (.agg (i.block.map u8)) := by
 simp only [part, mM, bind_pure, eK]
 rw [show ((bX i).drop 1).take 32 = i.block.map u8 by unfold bX; rw [List.drop_succ_cons, List.drop_zero, List.take_append_of_le_length (by simp [hb]), List.take_of_length_le (by simp [hb])]]
theorem eq61 (d : Nat) (a b : Inf) (ha : a.block.length = 32) (hb : b.block.length = 32) : equal env (d + 1 + 1 + 1) 61 (.agg (bX a)) (.agg (bX b)) = M.pure (eqI a b) := by
 have hq : xS env env.eqs 61 = true := rfl
 have p0 : ∀ (i : Inf), part env 3 (bX i) 0 = M.pure (.int .i64 i.bT) := fun i => rfl
 have pk : ∀ (i : Inf) (k : Nat) (v : a9) (t : TypeId) (tt : ti env t = M.pure ty2.i ∨ ti env t = M.pure ty3.i), i.block.length = 32 → [a9.int .i64 i.jD, .int .i64 i.total, .int .i64 i.eW, .int .i64 i.left][k]? = some v → part env t (bX i) (33 + k) = M.pure v := fun i k v t tt hl e => by
  rcases tt with tt | tt <;> simp only [part, tt, bind_pure, show eK ty2.i.desc = false from rfl, show eK ty3.i.desc = false from rfl, lO hl k, e, aZ]
 have q3 : ∀ x y, equal env (d + 1 + 1) 3 (.int .i64 x) (.int .i64 y) = M.pure (x == y) := fun x y => by
  simp only [equal, und, ti3, bind_pure, decide_true]
 have q2 : ∀ x y, equal env (d + 1 + 1) 2 (.int .i64 x) (.int .i64 y) = M.pure (x == y) := fun x y => by
  simp only [equal, und, ti2, bind_pure, decide_true]
 rw [equal]
 ·simp only [und, iI, bind_pure, hq, dU]
  simp only [allM, show decide ("Height" = "_") = false from rfl, show decide ("Block" = "_") = false from rfl, show decide ("Coins" = "_") = false from rfl, show decide ("Total" = "_") = false from rfl, show decide ("Burnt" = "_") = false from rfl, show decide ("Left" = "_") = false from rfl, p0, yJ ha, yJ hb, bind_pure, LB d a.block b.block ha hb, pk a 0 _ 3 (.inr ti3) ha rfl, pk b 0 _ 3 (.inr ti3) hb rfl, pk a 1 _ 2 (.inl ti2) ha rfl, pk b 1 _ 2 (.inl ti2) hb rfl, pk a 2 _ 2 (.inl ti2) ha rfl, pk b 2 _ 2 (.inl ti2) hb rfl, pk a 3 _ 2 (.inl ti2) ha rfl, pk b 3 _ 2 (.inl ti2) hb rfl, q2, q3, Bool.and_true]
  rfl
 all_goals (intro k n h; cases h)
theorem ac4 (a b : Inf) (ha : a.block.length = 32) (hb : b.block.length = 32) : bE env .eql 61 (.agg (bX a)) (.agg (bX b)) = M.pure (.bool (eqI a b)) := by
 have e := eq61 97 a b ha hb
 unfold bE
 simp only
 unfold bJ
 rw [e, bind_pure]
theorem ac3 : EB OV [A8, tJ] [115] 0 = 50 := by kernel_rfl
theorem ac2 : EB OV [A8, tJ] [115] 1 = 30 := by kernel_rfl
theorem ac1 : rW (kG [A8, tJ] 0) = 0 := by kernel_rfl
theorem PZ : rW (kG [A8, tJ] 1) = 0 := by kernel_rfl
theorem ac0 : (kG [A8, tJ] 1).getD gP = tJ := by kernel_rfl
theorem b61x (bT jD total eW left : Int) (b : UInt8) : build env 61 [(0, .int .i64 bT), (1, .agg ((hb_ b).map u8)), (2, .int .i64 jD), (3, .int .i64 total), (4, .int .i64 eW), (5, .int .i64 left)] = M.pure (.agg (bX ⟨bT, hb_ b, jD, total, eW, left⟩)) := rfl
theorem f27 (h : Hp) (n : Nat) (hf : bO h n) : Wp (bD env (evalW env) 27 []) h n fun v' h' n' => v' = .bool true ∧ Old h h' n := by
 refine bL ff27 fi27 ?_
 simp only [VD, Try.f27, Option.getD_some, List.replicate, aC, fgr, hkr, execOp, opd, bG, ofValue, aD, put, aB, aL, aE, ended, aT, aU, Nat.reduceSub, gL, gI]
 refine bF hf (f14 (fun _ => False) h n hf (fun j w => w.elim)) fun v1 h1 n1 hn1 f1 ⟨s, e1, hx, s1, o1⟩ => ?_
 subst e1
 simp only [aC, tyr, fgr, execOp, opd, ofValue, dE, aD, put, nth, aB, und, cel, aZ, Nat.beq, buildSlice, fQ, fill, List.take_zero, List.drop_succ_cons, List.drop_zero, Nat.ble, Nat.one_mul, gL, gB, gI]
 refine j4 ti5 f1 (f := fun id => a9.sl id 0 1 (some 1) 1) fun H2 r2 o2 f2 => ?_
 have bb2 : Bytes H2 (.sl n1 0 1 (some 1) 1) [115] := Bytes.fresh (l := [115]) r2
 have s2 := s1.old (n' := n1 + 1) (by omega) (h' := H2) fun j hj => o2 j (by omega)
 simp only [aC, tyr, hkr, execOp, opd, bG, ofValue, aD, put, nth, aL, aE, und, lenOf, dG, cW, cX, Nat.beq, reduceCtorEq, Option.some.injEq, exists_eq_left', ne_eq, convert, hU, qC, r2, l9 r2, uZ, show (Nat.blt 0 1) = true from rfl, gL, gB]
 refine bF f2 (f60 s2 _ [115] 0 bb2 (fun j q => by injection q with q; omega) (by decide) (by decide) f2) fun v3 h3 n3 hn3 f3 ⟨e3, o3⟩ => ?_
 subst e3
 have s3 := s2.old hn3 o3
 simp only [aC, tyr, fgr, execOp, opd, ofValue, dE, aD, put, nth, aB, und, cel, extract, aZ, Nat.beq, buildSlice, fQ, fill, List.take_zero, List.drop_succ_cons, List.drop_zero, Nat.ble, Nat.one_mul, ac3, ac1, gL, gB, gI]
 refine j4 ti5 f3 (f := fun id => a9.sl id 0 1 (some 1) 1) fun H4 r4 o4 f4 => ?_
 have bb4 : Bytes H4 (.sl n3 0 1 (some 1) 1) [115] := Bytes.fresh (l := [115]) r4
 have s4 := s3.old (n' := n3 + 1) (by omega) (h' := H4) fun j hj => o4 j (by omega)
 simp only [aC, tyr, hkr, execOp, opd, bG, ofValue, aD, put, nth, aL, aE, und, lenOf, dG, cW, cX, Nat.beq, reduceCtorEq, Option.some.injEq, exists_eq_left', ne_eq, convert, hU, qC, r4, l9 r4, uZ, show (Nat.blt 0 1) = true from rfl, gL, gB]
 refine bF f4 (f60 s4 _ [115] 1 bb4 (fun j q => by injection q with q; omega) (by decide) (by decide) f4) fun v5 h5 n5 hn5 f5 ⟨e5, o5⟩ => ?_
 subst e5
 have s5 := s4.old hn5 o5
 simp only [aC, fgr, hkr, execOp, opd, bG, ofValue, aD, put, nth, aB, aL, aE, extract, aZ, ac2, PZ, gL]
 refine bF f5 (f25 s5 1 (by decide) f5) fun v6 h6 n6 hn6 f6 ⟨e6, ob6, o6⟩ => ?_
 subst e6
 simp only [aC, execOp, opd, aD, put, nth, extract, aZ, ac0, PZ, gL]
 rw [cD iI rfl]
 simp only [aC, execOp, opd, aD, put, nth, cel]
 refine dQ (v := .agg (bX tJ)) iI rfl rfl (fL _) f6 fun H7 r7 p7 f7 => ?_
 replace r7 : Row H7 n6 (bX tJ) := r7
 simp only [aC, fgr, execOp, opd, ofValue, aD, put, nth, aB, bor, aJ, aK, intOp, bC, branch, beq_self_eq_true, gL, gB]
 rw [aM (r7.whole iI rfl rfl)]
 simp only [aC, fgr, execOp, opd, ofValue, dE, aD, put, nth, aB, bor, bC, branch, Q7, b61x, ac4 tJ ⟨1, hb_ 2, 2, 50, 3, 4⟩ rfl rfl, show eqI tJ ⟨1, hb_ 2, 2, 50, 3, 4⟩ = true from LA tJ, gL, gB]
 exact fun j hj => by rw [p7 j (by omega), o6 j (by omega), o5 j (by omega), o4 j (by omega), o3 j (by omega), o2 j (by omega), o1 j hj]
structure zC (L : List Ver) (I : List Inf) (L' : List Ver) (I' : List Inf) : Prop where
 c : iR (((I.length : Nat) : Int) - 1) L' = L
 n : I.length ≤ I'.length
 p : I'.take I.length = I
theorem zC.refl {L : List Ver} {I : List Inf} {k : Nat} (s : Sto L I k) : zC L I L I := ⟨LI s.i (Int.le_refl _), Nat.le_refl _, List.take_length⟩
theorem zC.got {L L' : List Ver} {I I' : List Inf} {k : Nat} (a : zC L I L' I') (s : Sto L' I' k) (A : App) : zC L I (HD L' I' A).1 (HD L' I' A).2 := by
 unfold HD
 cases e : fF L' I' A with
 | none => exact a
 | some q =>
  obtain ⟨b, c, x, d, f⟩ := C6 s.i e
  have n := a.n
  show zC L I q.1 q.2
  refine ⟨(c _ (by omega)).trans a.c, by rw [d, List.length_append]; omega, ?_⟩
  rw [d, List.take_append_of_le_length n]
  exact a.p
theorem ET {hash : List UInt8} {pn : Int} {v : Ver} (h : same hash pn v = true) : v.hash = hash ∧ v.pn = pn := by
 unfold same at h
 simp only [Bool.and_eq_true, decide_eq_true_eq, beq_iff_eq] at h
 exact h
theorem G9 (v : Ver) : same v.hash v.pn v = true := by simp [same]
def uV (L : List Ver) (hash : List UInt8) (pn z : Int) : List Ver := (vV L hash pn).filter fun v => decide (v.made ≤ z)
theorem sU {L : List Ver} {hash : List UInt8} {pn z : Int} {v : Ver} : v ∈ uV L hash pn z ↔ v ∈ L ∧ same hash pn v = true ∧ v.made ≤ z := by
 unfold uV vV
 rw [List.mem_filter, List.mem_filter, decide_eq_true_eq, and_assoc]
theorem EN {L : List Ver} {t : Int} (i : Inv L t) (hash : List UInt8) (pn z : Int) : (uV L hash pn z).Pairwise fun a b => 0 < a.bZ ∧ a.bZ ≤ b.made := by
 have r : (uV L hash pn z).Pairwise fun a b => iE false a b < 0 := (i.r.filter _).filter _
 refine r.imp_of_mem fun {a b} ha hb hab => ?_
 obtain ⟨a1, a2, a3⟩ := sU.1 ha
 obtain ⟨b1, b2, b3⟩ := sU.1 hb
 obtain ⟨p1, p2⟩ := ET a2
 obtain ⟨q1, q2⟩ := ET b2
 refine i.o a a1 b b1 (by rw [p1, q1]) (by rw [p2, q2]) ?_
 have hab' : orI (nT a.hash a.pn b.hash b.pn) (kM a.made b.made) < 0 := hab
 have e : nT a.hash a.pn b.hash b.pn = 0 := by
  rw [p1, p2, q1, q2]
  exact oH.1 (show same hash pn ⟨hash, pn, 0, 0, [], false, 0, []⟩ = true by simp [same])
 rw [e] at hab'
 exact sJ.1 hab'
theorem zJ {L : List Ver} {hash : List UInt8} {pn z : Int} : (L.filter fun v => same hash pn v && there v z) = (uV L hash pn z).filter fun v => there v z := by
 unfold uV vV
 rw [List.filter_filter, List.filter_filter]
 refine List.filter_congr fun v _ => ?_
 unfold there
 cases same hash pn v <;> cases decide (v.made ≤ z) <;> simp
theorem filter_none {P : List Ver} {f : Ver → Bool} (h : ∀ v ∈ P, f v = false) : P.filter f = [] := by
 rw [List.filter_eq_nil_iff]
 intro v hv
 rw [h v hv]
 decide
theorem ad7 {L : List Ver} {t : Int} (i : Inv L t) (hash : List UInt8) (pn z : Int) : (uV L hash pn z = [] ∧ atV L hash pn z = none) ∨
  ∃ P u, uV L hash pn z = P ++ [u] ∧ atV L hash pn z = if there u z then some u else none := by
 unfold atV
 rw [zJ]
 rcases List.eq_nil_or_concat (uV L hash pn z) with e | ⟨P, u, e⟩
 rotate_left
 rw [List.concat_eq_append] at e
 rotate_left
 ·exact .inl ⟨e, by rw [e]; rfl⟩
 ·refine .inr ⟨P, u, e, ?_⟩
  have p := EN i hash pn z
  have hu : u ∈ uV L hash pn z := by rw [e]; simp
  have um := (sU.1 hu).2.2
  rw [e] at p ⊢
  rw [List.pairwise_append] at p
  rw [List.filter_append, filter_none fun a ha => ?_, List.nil_append]
  ·by_cases c : there u z = true
   ·rw [if_pos c, List.filter_cons, if_pos c]; rfl
   ·rw [if_neg c, List.filter_cons, if_neg c]; rfl
  ·obtain ⟨q1, q2⟩ := p.2.2 a ha u (List.mem_singleton.2 rfl)
   unfold there
   rw [Bool.and_eq_false_iff, Bool.or_eq_false_iff, decide_eq_false_iff_not, decide_eq_false_iff_not, decide_eq_false_iff_not]
   omega
structure WK (T : List Ver) (c : Option Ver) (w : Ver) (z : Int) : Prop where
 nil : T.length = 0 → c = none ∧ z < w.made
 last : ∀ h : T.length - 1 < T.length, c.isSome = decide (T[T.length - 1].bZ = 0) ∧ (c.isSome = true → (c.map (asV z)).getD noV = T[T.length - 1]) ∧ T[T.length - 1].made ≤ z ∧ T[T.length - 1].bZ ≤ z
 step : ∀ (i : Nat) (h1 : 1 ≤ i) (h2 : i < T.length), T[i - 1].bZ ≠ 0 ∧ T[i - 1].bZ ≤ T[i].made
theorem CK (v : Ver) (z : Int) : (asV z v).made = v.made := by
 unfold asV
 split <;> rfl
theorem N5 {L : List Ver} {I : List Inf} {k : Nat} (s : Sto L I k) {w : Ver} (hw : w ∈ L) {j : Nat} (hj : j < I.length) :
  WK (lA L I w.hash w.pn ((j : Nat) : Int)) (nY L I w.hash w.pn ((j : Nat) : Int)) w ((j : Nat) : Int) := by
 generalize hz : ((j : Nat) : Int) = z
 have z0 : 0 ≤ z := by omega
 have ei := s.l.find hj
 rw [hz] at ei
 have et : lA L I w.hash w.pn z = (uV L w.hash w.pn z).map (asV z) := by unfold lA; rw [ei]; rfl
 have ec : nY L I w.hash w.pn z = atV L w.hash w.pn z := by unfold nY; rw [ei]
 rw [et, ec]
 have pr := EN s.i w.hash w.pn z
 have hst : ∀ (i : Nat) (h1 : 1 ≤ i) (h2 : i < ((uV L w.hash w.pn z).map (asV z)).length), ((uV L w.hash w.pn z).map (asV z))[i - 1].bZ ≠ 0 ∧ ((uV L w.hash w.pn z).map (asV z))[i - 1].bZ ≤ ((uV L w.hash w.pn z).map (asV z))[i].made := by
  intro i h1 h2
  rw [List.length_map] at h2
  obtain ⟨q1, q2⟩ := List.pairwise_iff_getElem.1 pr (i - 1) i (by omega) h2 (by omega)
  have um := (sU.1 (List.getElem_mem h2)).2.2
  rw [List.getElem_map, List.getElem_map, CK]
  unfold asV
  rw [if_neg (by omega)]
  omega
 rcases ad7 s.i w.hash w.pn z with ⟨e1, e2⟩ | ⟨P, u, e1, e2⟩
 ·refine ⟨fun _ => ⟨e2, ?_⟩, fun h => ?_, hst⟩
  ·have : ¬ w ∈ uV L w.hash w.pn z := by rw [e1]; simp
   rw [sU] at this
   by_cases c : w.made ≤ z
   ·exact absurd ⟨hw, G9 w, c⟩ this
   ·omega
  ·rw [e1] at h
   simp at h
 ·have hu : u ∈ uV L w.hash w.pn z := by rw [e1]; simp
  obtain ⟨u1, u2, u3⟩ := sU.1 hu
  have fu := s.i.f u u1
  refine ⟨fun h => ?_, fun h => ?_, hst⟩
  ·rw [e1] at h
   simp at h
  ·have el : ((uV L w.hash w.pn z).map (asV z))[((uV L w.hash w.pn z).map (asV z)).length - 1] = asV z u := by
    simp [e1]
   rw [el, e2, CK]
   have ht : there u z = decide ((asV z u).bZ = 0) := by
    unfold there asV
    rw [decide_eq_true u3, Bool.true_and]
    split
    ·rename_i c
     simp [gQ, c]
    ·rename_i c
     simp [c]
   rw [ht]
   by_cases c : (asV z u).bZ = 0
   ·rw [decide_eq_true c, if_pos rfl]
    exact ⟨rfl, fun _ => rfl, u3, by omega⟩
   ·rw [decide_eq_false c, if_neg (by decide)]
    refine ⟨rfl, (fun h => nomatch h), u3, ?_⟩
    unfold asV at c ⊢
    split
    ·exact z0
    ·omega
theorem BD (Q : eJ) (ks : List Kf) (u v x0 x1 : a9) (s a b len k : Nat) (z : Int) (T : List Ver) (h : Hp) (n : Nat) (hl : T.length ≤ 900000) (hv : VL h a b u T)
  (hst : ∀ (i : Nat) (h1 : 1 ≤ i) (h2 : i < T.length), T[i - 1].bZ ≠ 0 ∧ T[i - 1].bZ ≤ T[i].made)
  (hT : ∀ (x4 x9 x10 x11 x12 x13 x14 x15 x16 x24 x30 x42 x67 x70 x77 x109 x113 x136 : a9), dV env 12 none Q ks (.exit 2) (x0 :: x1 :: a9.aA :: a9.aA :: x4 :: .bool true :: .ptr s 0 :: .int .i64 z :: a9.aA :: x9 :: x10 :: x11 :: x12 :: x13 :: x14 :: x15 :: x16 :: a9.aA :: a9.aA :: a9.aA :: a9.aA :: a9.aA :: a9.aA :: a9.aA :: x24 :: a9.aA :: a9.aA :: a9.aA :: a9.aA :: a9.aA :: x30 :: a9.aA :: a9.aA :: a9.aA :: a9.aA :: a9.aA :: a9.aA :: a9.aA :: a9.aA :: v :: .int .i64 (len : Nat) :: .int .i64 (k : Nat) :: x42 :: a9.aA :: a9.aA :: a9.aA :: a9.aA :: a9.aA :: a9.aA :: a9.aA :: a9.aA :: a9.aA :: a9.aA :: a9.aA :: a9.aA :: a9.aA :: a9.aA :: a9.aA :: a9.aA :: a9.aA :: a9.aA :: a9.aA :: a9.aA :: a9.aA :: a9.aA :: a9.aA :: a9.aA :: x67 :: a9.aA :: a9.aA :: x70 :: a9.aA :: a9.aA :: a9.aA :: a9.aA :: a9.aA :: a9.aA :: x77 :: a9.aA :: a9.aA :: a9.aA :: a9.aA :: a9.aA :: a9.aA :: a9.aA :: a9.aA :: a9.aA :: a9.aA :: a9.aA :: a9.aA :: a9.aA :: a9.aA :: a9.aA :: a9.aA :: a9.aA :: a9.aA :: a9.aA :: a9.aA :: a9.aA :: a9.aA :: a9.aA :: a9.aA :: a9.aA :: a9.aA :: a9.aA :: a9.aA :: a9.aA :: a9.aA :: a9.aA :: x109 :: a9.aA :: a9.aA :: a9.aA :: x113 :: a9.aA :: a9.aA :: a9.aA :: a9.aA :: a9.aA :: a9.aA :: a9.aA :: a9.aA :: a9.aA :: a9.aA :: a9.aA :: a9.aA :: a9.aA :: a9.aA :: a9.aA :: a9.aA :: a9.aA :: a9.aA :: a9.aA :: a9.aA :: a9.aA :: a9.aA :: x136 :: a9.aA :: a9.aA :: []) h n) :
  ∀ (m i : Nat) (x4 x9 x10 x11 x12 x14 x15 x24 x30 x42 x67 x70 x77 x109 x113 x136 : a9), 1 ≤ i → i + m = T.length →
   Run env 12 none Q (.loop DM) ks (x0 :: x1 :: a9.aA :: a9.aA :: x4 :: .bool true :: .ptr s 0 :: .int .i64 z :: a9.aA :: x9 :: x10 :: x11 :: x12 :: u :: x14 :: x15 :: .int .i64 (i : Nat) :: a9.aA :: a9.aA :: a9.aA :: a9.aA :: a9.aA :: a9.aA :: a9.aA :: x24 :: a9.aA :: a9.aA :: a9.aA :: a9.aA :: a9.aA :: x30 :: a9.aA :: a9.aA :: a9.aA :: a9.aA :: a9.aA :: a9.aA :: a9.aA :: a9.aA :: v :: .int .i64 (len : Nat) :: .int .i64 (k : Nat) :: x42 :: a9.aA :: a9.aA :: a9.aA :: a9.aA :: a9.aA :: a9.aA :: a9.aA :: a9.aA :: a9.aA :: a9.aA :: a9.aA :: a9.aA :: a9.aA :: a9.aA :: a9.aA :: a9.aA :: a9.aA :: a9.aA :: a9.aA :: a9.aA :: a9.aA :: a9.aA :: a9.aA :: a9.aA :: x67 :: a9.aA :: a9.aA :: x70 :: a9.aA :: a9.aA :: a9.aA :: a9.aA :: a9.aA :: a9.aA :: x77 :: a9.aA :: a9.aA :: a9.aA :: a9.aA :: a9.aA :: a9.aA :: a9.aA :: a9.aA :: a9.aA :: a9.aA :: a9.aA :: a9.aA :: a9.aA :: a9.aA :: a9.aA :: a9.aA :: a9.aA :: a9.aA :: a9.aA :: a9.aA :: a9.aA :: a9.aA :: a9.aA :: a9.aA :: a9.aA :: a9.aA :: a9.aA :: a9.aA :: a9.aA :: a9.aA :: a9.aA :: x109 :: a9.aA :: a9.aA :: a9.aA :: x113 :: a9.aA :: a9.aA :: a9.aA :: a9.aA :: a9.aA :: a9.aA :: a9.aA :: a9.aA :: a9.aA :: a9.aA :: a9.aA :: a9.aA :: a9.aA :: a9.aA :: a9.aA :: a9.aA :: a9.aA :: a9.aA :: a9.aA :: a9.aA :: a9.aA :: a9.aA :: x136 :: a9.aA :: a9.aA :: []) h n := by
 intro m
 induction m with
 | zero =>
  intro i x4 x9 x10 x11 x12 x14 x15 x24 x30 x42 x67 x70 x77 x109 x113 x136 h1 hm
  have : i = T.length := by omega
  subst this
  rw [cF]
  have hcc : ¬ (((T.length : Nat) : Int) < ((T.length : Nat) : Int)) := by omega
  simp only [DM, bS, Try.f12, Option.getD_some, aC, fgr, execOp, opd, bG, aD, put, nth, aB, aL, builtin, dH, bor, aJ, aK, intOp, hv.len, List.getD_cons_zero, List.getD_cons_succ, hcc, gL, gB]
  exact hT _ _ _ _ _ _ _ _ _ _ _ _ _ _ _ _ _ _
 | succ m ih =>
  intro i x4 x9 x10 x11 x12 x14 x15 x24 x30 x42 x67 x70 x77 x109 x113 x136 h1 hm
  have hil : i < T.length := by omega
  have hil2 : i - 1 < T.length := by omega
  have hcc : (((i : Nat) : Int) < ((T.length : Nat) : Int)) := by omega
  have w1 : IntKind.i64.wrap (((i : Nat) : Int) + 1) = ((i + 1 : Nat) : Int) := by rw [w64 (by omega) (by omega)]; omega
  have w2 : IntKind.i64.wrap (((i : Nat) : Int) - 1) = ((i - 1 : Nat) : Int) := by rw [w64 (by omega) (by omega)]; omega
  obtain ⟨sw, va⟩ := hv.at_ hil
  obtain ⟨sx, vb⟩ := hv.at_ hil2
  obtain ⟨q1, q2⟩ := hst i h1 hil
  have q3 : ¬ T[i].made < T[i - 1].bZ := by omega
  rw [cF]
  simp only [DM, bS, Try.f12, Option.getD_some, aC, fgr, execOp, opd, bG, aD, put, nth, aB, aL, builtin, dH, bor, aJ, aK, intOp, hv.len, List.getD_cons_zero, List.getD_cons_succ, hcc, gL, gB]
  refine cG ⟨rfl, ?_⟩
  simp only [aF, aI, execOp, opd, ofValue, aD, put, nth, bor, aJ, aK, intOp, bU, Nat.reduceAdd, w2, gB, gI]
  rw [bP (hv.idx hil2)]
  simp only [aF, aI, aC, tyr, execOp, opd, aD, put, nth, und, sizeOf, aZ, fieldAddr, Nat.reduceAdd, vb.mv, gL]
  rw [bP (vb.bZ n)]
  simp only [aF, cS, cM, cR, gD, aI, execOp, opd, ofValue, aD, put, nth, bor, aJ, aK, intOp, bU, Nat.reduceAdd, q1, w2, gL, gB, gI]
  rw [bP (hv.idx hil2)]
  simp only [cS, cM, cR, gD, aI, aC, tyr, execOp, opd, aD, put, nth, und, sizeOf, aZ, fieldAddr, Nat.reduceAdd, vb.mv, gL]
  rw [bP (vb.bZ n)]
  simp only [cS, cM, cR, gD, aI, execOp, opd, aD, put, nth, Nat.reduceAdd, gL]
  rw [bP (hv.idx hil)]
  simp only [cS, cM, cR, gD, aI, aC, tyr, execOp, opd, aD, put, nth, und, sizeOf, aZ, fieldAddr, Nat.reduceAdd, va.mv, gL]
  rw [bP (va.made n)]
  simp only [bY, aF, cS, cM, cR, gD, eX, aI, aC, fgr, execOp, opd, ofValue, aD, put, nth, aB, bor, aJ, aK, intOp, bU, bC, branch, Nat.reduceAdd, gt_iff_lt, q3, gL, gB]
  refine ⟨(by (try simp (disch := first | assumption | omega) only [dF, List.all_cons, List.all_nil, gB, gF]); repeat' (first | rfl | exact (Bool.or_eq_true _ _).mpr (.inr rfl) | refine (Bool.and_eq_true _ _).mpr ⟨?_, ?_⟩)), ?_⟩
  simp only [w1]
  exact ih (i + 1) _ _ _ _ _ _ _ _ _ _ _ _ _ _ _ _ (by omega) (by omega)
theorem K1 (Q : eJ) (ks : List Kf) (W : Nat → Prop) (s n0 b0 j0 : Nat) (v x0 x1 : a9) (L : List Ver) (I : List Inf) (h0 : Hp) (hv : VL h0 b0 n0 v L) (hS : Sto L I 30) (hj : j0 < I.length)
  (hT : ∀ (h : Hp) (n : Nat) (x0 x1 x4 x6 x7 x9 x10 x11 x12 x13 x14 x15 x16 x24 x30 x39 x40 x41 x42 x67 x70 x77 x109 x113 x136 : a9), bO h n → dV env 12 none Q ks (.exit 0) (x0 :: x1 :: a9.aA :: a9.aA :: x4 :: .bool true :: x6 :: x7 :: a9.aA :: x9 :: x10 :: x11 :: x12 :: x13 :: x14 :: x15 :: x16 :: a9.aA :: a9.aA :: a9.aA :: a9.aA :: a9.aA :: a9.aA :: a9.aA :: x24 :: a9.aA :: a9.aA :: a9.aA :: a9.aA :: a9.aA :: x30 :: a9.aA :: a9.aA :: a9.aA :: a9.aA :: a9.aA :: a9.aA :: a9.aA :: a9.aA :: x39 :: x40 :: x41 :: x42 :: a9.aA :: a9.aA :: a9.aA :: a9.aA :: a9.aA :: a9.aA :: a9.aA :: a9.aA :: a9.aA :: a9.aA :: a9.aA :: a9.aA :: a9.aA :: a9.aA :: a9.aA :: a9.aA :: a9.aA :: a9.aA :: a9.aA :: a9.aA :: a9.aA :: a9.aA :: a9.aA :: a9.aA :: x67 :: a9.aA :: a9.aA :: x70 :: a9.aA :: a9.aA :: a9.aA :: a9.aA :: a9.aA :: a9.aA :: x77 :: a9.aA :: a9.aA :: a9.aA :: a9.aA :: a9.aA :: a9.aA :: a9.aA :: a9.aA :: a9.aA :: a9.aA :: a9.aA :: a9.aA :: a9.aA :: a9.aA :: a9.aA :: a9.aA :: a9.aA :: a9.aA :: a9.aA :: a9.aA :: a9.aA :: a9.aA :: a9.aA :: a9.aA :: a9.aA :: a9.aA :: a9.aA :: a9.aA :: a9.aA :: a9.aA :: a9.aA :: x109 :: a9.aA :: a9.aA :: a9.aA :: x113 :: a9.aA :: a9.aA :: a9.aA :: a9.aA :: a9.aA :: a9.aA :: a9.aA :: a9.aA :: a9.aA :: a9.aA :: a9.aA :: a9.aA :: a9.aA :: a9.aA :: a9.aA :: a9.aA :: a9.aA :: a9.aA :: a9.aA :: a9.aA :: a9.aA :: a9.aA :: x136 :: a9.aA :: a9.aA :: []) h n) :
  ∀ (m i : Nat) (h : Hp) (n : Nat) (x4 x9 x10 x11 x12 x13 x14 x15 x16 x24 x30 x42 x67 x70 x77 x109 x113 x136 : a9), i + m = L.length → St W h n s L I → n0 ≤ n → bO h n → Old h0 h n0 →
   Run env 12 none Q (.loop DN) ks (x0 :: x1 :: a9.aA :: a9.aA :: x4 :: .bool true :: .ptr s 0 :: .int .i64 ((j0 : Nat) : Int) :: a9.aA :: x9 :: x10 :: x11 :: x12 :: x13 :: x14 :: x15 :: x16 :: a9.aA :: a9.aA :: a9.aA :: a9.aA :: a9.aA :: a9.aA :: a9.aA :: x24 :: a9.aA :: a9.aA :: a9.aA :: a9.aA :: a9.aA :: x30 :: a9.aA :: a9.aA :: a9.aA :: a9.aA :: a9.aA :: a9.aA :: a9.aA :: a9.aA :: v :: .int .i64 (L.length : Nat) :: .int .i64 (i : Nat) :: x42 :: a9.aA :: a9.aA :: a9.aA :: a9.aA :: a9.aA :: a9.aA :: a9.aA :: a9.aA :: a9.aA :: a9.aA :: a9.aA :: a9.aA :: a9.aA :: a9.aA :: a9.aA :: a9.aA :: a9.aA :: a9.aA :: a9.aA :: a9.aA :: a9.aA :: a9.aA :: a9.aA :: a9.aA :: x67 :: a9.aA :: a9.aA :: x70 :: a9.aA :: a9.aA :: a9.aA :: a9.aA :: a9.aA :: a9.aA :: x77 :: a9.aA :: a9.aA :: a9.aA :: a9.aA :: a9.aA :: a9.aA :: a9.aA :: a9.aA :: a9.aA :: a9.aA :: a9.aA :: a9.aA :: a9.aA :: a9.aA :: a9.aA :: a9.aA :: a9.aA :: a9.aA :: a9.aA :: a9.aA :: a9.aA :: a9.aA :: a9.aA :: a9.aA :: a9.aA :: a9.aA :: a9.aA :: a9.aA :: a9.aA :: a9.aA :: a9.aA :: x109 :: a9.aA :: a9.aA :: a9.aA :: x113 :: a9.aA :: a9.aA :: a9.aA :: a9.aA :: a9.aA :: a9.aA :: a9.aA :: a9.aA :: a9.aA :: a9.aA :: a9.aA :: a9.aA :: a9.aA :: a9.aA :: a9.aA :: a9.aA :: a9.aA :: a9.aA :: a9.aA :: a9.aA :: a9.aA :: a9.aA :: x136 :: a9.aA :: a9.aA :: []) h n := by
 have hl := hS.n
 have hI := hS.m
 intro m
 induction m with
 | zero =>
  intro i h n x4 x9 x10 x11 x12 x13 x14 x15 x16 x24 x30 x42 x67 x70 x77 x109 x113 x136 hm hs hn hf ho
  have : i = L.length := by omega
  subst this
  rw [cF]
  have hcc : ¬ (((L.length : Nat) : Int) < ((L.length : Nat) : Int)) := by omega
  simp only [DN, bS, Try.f12, Option.getD_some, aC, fgr, execOp, opd, aD, put, nth, aB, bor, aJ, aK, intOp, List.getD_cons_zero, hcc, gL, gB]
  exact hT h n _ _ _ _ _ _ _ _ _ _ _ _ _ _ _ _ _ _ _ _ _ _ _ _ _ hf
 | succ m ih =>
  intro i h n x4 x9 x10 x11 x12 x13 x14 x15 x16 x24 x30 x42 x67 x70 x77 x109 x113 x136 hm hs hn hf ho
  have hil : i < L.length := by omega
  have hcc : (((i : Nat) : Int) < ((L.length : Nat) : Int)) := by omega
  have w1 : IntKind.i64.wrap (((i : Nat) : Int) + 1) = ((i + 1 : Nat) : Int) := by rw [w64 (by omega) (by omega)]; omega
  have hv1 : VL h b0 n0 v L := hv.aX fun j _ q => ho j q
  obtain ⟨sw, va⟩ := hv1.at_ hil
  have told := N5 hS (List.getElem_mem hil) hj
  have ei := hS.l.find hj
  have tl : (lA L I L[i].hash L[i].pn ((j0 : Nat) : Int)).length ≤ L.length := by
   unfold lA
   rw [ei]
   exact Nat.le_trans (I7 _ _) (List.length_filter_le _ _)
  generalize hw : L[i] = w at *
  generalize hTT : lA L I w.hash w.pn ((j0 : Nat) : Int) = T at *
  generalize hcv : nY L I w.hash w.pn ((j0 : Nat) : Int) = c at *
  have kd := va.s.kind
  rw [cF]
  simp only [DN, bS, Try.f12, Option.getD_some, aC, fgr, execOp, opd, aD, put, nth, aB, bor, aJ, aK, intOp, List.getD_cons_zero, hcc, gL, gB]
  rw [aM (hv1.idx hil)]
  simp only [aC, execOp, opd, aD, put, nth]
  rw [aM (va.all n)]
  simp only [aC, execOp, aD, put]
  rw [cD dY rfl]
  simp only [aC, execOp, opd, aD, put, nth, cel]
  refine dQ (v := .agg (aO w sw)) dY rfl (bM va.ok.h va.ok.b) (cL kd.2.1) hf fun H1 r1 p1 f1 => ?_
  replace r1 : Row H1 n (aO w sw) := r1
  have O1 : Old h H1 n := fun j hj => p1 j (by omega)
  have s1 := hs.old (n' := n + 1) (by omega) O1
  simp only [aC, tyr, fgr, execOp, opd, aD, put, nth, aB, und, sizeOf, aZ, aS, fieldAddr, gL, gI]
  rw [aM (gX r1 va.ok)]
  simp only [aC, hkr, execOp, opd, bG, aD, put, nth, aL, aE, gL]
  refine bF f1 (f15 s1 w.hash w.pn _ va.ok.h (by omega) (by omega) f1) fun v2 h2 n2 hn2 f2 ⟨o2, sc, e2, okc, bc, ic⟩ => ?_
  subst e2
  rw [hcv] at okc bc
  have s2 := s1.old hn2 o2
  have r2 := r1.aX (o2 n (by omega))
  have kc := bc.kind
  simp only [aC, execOp, opd, aD, put, nth, extract, aZ, hcv, ei, rW, gL]
  rw [cD dY rfl]
  simp only [aC, execOp, opd, aD, put, nth, cel]
  refine dQ (v := .agg (aO ((c.map (asV ((j0 : Nat) : Int))).getD noV) sc)) dY rfl (bM okc.h okc.b) (cL kc.2.1) f2 fun H3 r3 p3 f3 => ?_
  replace r3 : Row H3 n2 (aO ((c.map (asV ((j0 : Nat) : Int))).getD noV) sc) := r3
  have O3 : Old h2 H3 n2 := fun j hj => p3 j (by omega)
  have s3 := s2.old (n' := n2 + 1) (by omega) O3
  have r23 := r2.aX (O3 n (by omega))
  have bc3 := bc.aX (h' := H3) fun j q => O3 j (ic j q).2
  simp only [aC, tyr, fgr, execOp, opd, aD, put, nth, aB, und, sizeOf, aZ, aS, fieldAddr, gL, gI]
  rw [aM (gX r23 va.ok)]
  simp only [aC, hkr, execOp, opd, bG, aD, put, nth, aL, aE, gL]
  refine bF f3 (f21 s3 w.hash w.pn _ va.ok.h (by omega) (by omega) f3) fun v4 h4 n4 hn4 f4 ⟨o4, u, e4, l4⟩ => ?_
  subst e4
  rw [hTT] at l4
  have s4 := s3.old hn4 o4
  have r24 := r23.aX (o4 n (by omega))
  have r34 := r3.aX (o4 n2 (by omega))
  have bc4 := bc3.aX (h' := h4) fun j q => o4 j (by have := ic j q; omega)
  have OO4 : Old h h4 n := fun j hj => by rw [o4 j (by omega), O3 j (by omega), o2 j (by omega), O1 j hj]
  simp only [aC, fgr, execOp, opd, bG, ofValue, aD, put, nth, aB, aL, builtin, dH, bor, aJ, aK, intOp, bC, branch, extract, aZ, bne_self_eq_false, ei, rW, l4.len, gL, gB, gI]
  by_cases t0 : T.length = 0
  ·obtain ⟨c0, wm⟩ := told.nil t0
   have wm' : ¬ w.made ≤ ((j0 : Nat) : Int) := by omega
   subst c0
   simp only [aC, tyr, execOp, opd, aD, put, nth, und, sizeOf, aZ, aS, fieldAddr, Int.cast_ofNat_Int, t0, Option.isSome_none, gL, gB, gI]
   rw [aM (eS r24 va.ok)]
   simp only [aC, fgr, execOp, opd, ofValue, aD, put, nth, aB, bor, aJ, aK, intOp, bU, bC, branch, wm', w1, gL, gB]
   exact ih (i + 1) h4 n4 _ _ _ _ _ _ _ _ _ _ _ _ _ _ _ _ _ _ (by omega) s4 (by omega) f4 (fun j q => by rw [OO4 j (by omega), ho j q])
  ·have t0' : ¬ (((T.length : Nat) : Int) = 0) := by omega
   have tl1 : T.length - 1 < T.length := by omega
   have w2 : IntKind.i64.wrap (((T.length : Nat) : Int) - 1) = ((T.length - 1 : Nat) : Int) := by rw [w64 (by omega) (by omega)]; omega
   obtain ⟨la1, la2, la3, la4⟩ := told.last tl1
   obtain ⟨sx, vx⟩ := l4.at_ tl1
   have hst := told.step
   generalize hlast : T[T.length - 1] = x at *
   have kx := vx.s.kind
   simp only [aC, execOp, opd, bG, ofValue, aD, put, nth, aL, builtin, dH, bor, aJ, aK, intOp, bU, t0', l4.len, w2, gB]
   rw [aM (l4.idx tl1)]
   simp only [aC, execOp, opd, aD, put, nth]
   rw [aM (vx.all n4)]
   simp only [aC, execOp, aD, put]
   rw [cD dY rfl]
   simp only [aC, execOp, opd, aD, put, nth, cel]
   refine dQ (v := .agg (aO x sx)) dY rfl (bM vx.ok.h vx.ok.b) (cL kx.2.1) f4 fun H5 r5 p5 f5 => ?_
   replace r5 : Row H5 n4 (aO x sx) := r5
   have O5 : Old h4 H5 n4 := fun j hj => p5 j (by omega)
   have s5 := s4.old (n' := n4 + 1) (by omega) O5
   have l5 : VL H5 (n2 + 1) n4 u T := l4.aX fun j _ q => O5 j q
   have r35 := r34.aX (O5 n2 (by omega))
   have bc5 := bc4.aX (h' := H5) fun j q => O5 j (by have := ic j q; omega)
   have bx5 := vx.s.aX (h' := H5) fun j q => O5 j (vx.sn j q).2
   have la3' : ¬ ((j0 : Nat) : Int) < x.made := by omega
   have la4' : ¬ ((j0 : Nat) : Int) < x.bZ := by omega
   simp only [aC, tyr, fgr, execOp, opd, aD, put, nth, aB, und, sizeOf, aZ, aS, fieldAddr, gL, gI]
   rw [aM (dD r5 vx.ok)]
   cases hc : c.isSome with
   | false =>
    rw [hc] at la1
    have xs0 : ¬ x.bZ = 0 := of_decide_eq_false la1.symm
    simp only [aC, tyr, execOp, opd, ofValue, aD, put, nth, und, sizeOf, bor, aJ, bE, aK, intOp, dG, dU, bC, branch, aZ, aS, fieldAddr, bJ, equal, cZ, cH, cJ, beq_self_eq_true, xs0, gL, gB, gI]
    rw [aM (eS r5 vx.ok)]
    simp only [aC, tyr, execOp, opd, ofValue, aD, put, nth, und, sizeOf, bor, aJ, aK, intOp, bC, branch, aZ, aS, fieldAddr, gt_iff_lt, la3', gL, gB, gI]
    rw [aM (dD r5 vx.ok)]
    simp only [aC, fgr, execOp, opd, ofValue, aD, put, nth, aB, bor, aJ, aK, intOp, bC, branch, gt_iff_lt, la4', gL, gB]
    refine BD _ _ u v _ _ s (n2 + 1) n4 L.length i _ T H5 (n4 + 1) (by omega) l5 hst ?_ (T.length - 1) 1 _ _ _ _ _ _ _ _ _ _ _ _ _ _ _ _ (Nat.le_refl _) (by omega)
    intro x4 x9 x10 x11 x12 x13 x14 x15 x16 x24 x30 x42 x67 x70 x77 x109 x113 x136
    simp only [aC, fgr, execOp, opd, ofValue, aD, put, nth, aB, bor, aJ, aK, intOp, bU, w1, gB]
    exact ih (i + 1) H5 (n4 + 1) _ _ _ _ _ _ _ _ _ _ _ _ _ _ _ _ _ _ (by omega) s5 (by omega) f5 (fun j q => by rw [O5 j (by omega), OO4 j (by omega), ho j q])
   | true =>
    rw [hc] at la1 la2
    have xs0 : x.bZ = 0 := of_decide_eq_true la1.symm
    have ev := la2 rfl
    simp only [aC, tyr, execOp, opd, ofValue, aD, put, nth, und, bor, aJ, bE, aK, intOp, dG, dU, bJ, equal, cZ, cH, cJ, beq_self_eq_true, xs0, gL, gB]
    rw [aM (eN r35 okc)]
    simp only [aC, execOp, opd, aD, put, nth, gL]
    rw [aM (eN r5 vx.ok)]
    simp only [aC, hkr, execOp, opd, bG, aD, put, nth, aL, aE, gL]
    rw [ev] at okc bc5 ⊢
    refine bF f5 (f42 x x sc sx okc vx.ok H5 _ bc5 bx5 (fun j q => by have := ic j q; omega) (fun j q => by have := vx.sn j q; omega) f5) fun v6 h6 n6 hn6 f6 ⟨e6, o6⟩ => ?_
    rw [HI] at e6
    subst e6
    have s6 := s5.old hn6 o6
    have l6 : VL h6 (n2 + 1) n4 u T := l5.aX fun j _ q => o6 j (by omega)
    have r6 := r5.aX (o6 n4 (by omega))
    simp only [aC, tyr, execOp, opd, ofValue, aD, put, nth, und, sizeOf, unOp, bC, branch, aZ, aS, fieldAddr, gL, gB, gI]
    rw [aM (eS r6 vx.ok)]
    simp only [aC, tyr, execOp, opd, ofValue, aD, put, nth, und, sizeOf, bor, aJ, aK, intOp, bC, branch, aZ, aS, fieldAddr, gt_iff_lt, la3', gL, gB, gI]
    rw [aM (dD r6 vx.ok)]
    simp only [aC, fgr, execOp, opd, ofValue, aD, put, nth, aB, bor, aJ, aK, intOp, bC, branch, gt_iff_lt, la4', gL, gB]
    refine BD _ _ u v _ _ s (n2 + 1) n4 L.length i _ T h6 n6 (by omega) l6 hst ?_ (T.length - 1) 1 _ _ _ _ _ _ _ _ _ _ _ _ _ _ _ _ (Nat.le_refl _) (by omega)
    intro x4 x9 x10 x11 x12 x13 x14 x15 x16 x24 x30 x42 x67 x70 x77 x109 x113 x136
    simp only [aC, fgr, execOp, opd, ofValue, aD, put, nth, aB, bor, aJ, aK, intOp, bU, w1, gB]
    exact ih (i + 1) h6 n6 _ _ _ _ _ _ _ _ _ _ _ _ _ _ _ _ _ _ (by omega) s6 (by omega) f6 (fun j q => by rw [o6 j (by omega), O5 j (by omega), OO4 j (by omega), ho j q])
theorem Y8 (v0 : a9) (hv0 : Arg Try.prog 101 [v0]) (a1 : Int) (w1 : (Lit.int .u8 a1).wf = true) :
  Wp (bD env (evalW env) 12 [v0, .int .u8 a1]) (fun _ => none) 0 fun v _ _ => v = .bool true := by
 obtain ⟨os, xs, ha⟩ := WG hv0
 have hz : 0 ≤ a1 ∧ a1 ≤ 255 := by
  simp only [Lit.wf, Bool.and_eq_true, decide_eq_true_eq] at w1
  exact w1
 have wz : IntKind.i64.wrap a1 = a1 := w64 (by omega) (by omega)
 refine bL ff12 fi12 ?_
 simp only [VP, Try.f12, Option.getD_some, List.replicate, aC, fgr, hkr, execOp, opd, bG, ofValue, aD, put, aB, aL, aE, ended, aT, aU, Nat.reduceAdd, Nat.reduceSub, gL, gI]
 refine bF bO.none (f27 _ _ bO.none) fun v2 h2 n2 hn2 f2 ⟨e2, o2⟩ => ?_
 subst e2
 simp only [aC, fgr, hkr, execOp, opd, bG, aD, put, nth, aB, aL, aE, gL]
 refine eL (f57 v0 os xs h2 n2 ha) ?_
 by_cases g : nL os = true
 ·simp only [aC, fgr, execOp, opd, ofValue, aD, put, nth, aB, bor, aJ, aK, intOp, bC, branch, ↓reduceIte, Int.reduceLT, gt_iff_lt, g, gL, gB]
 rw [Bool.not_eq_true] at g
 simp only [aC, fgr, hkr, execOp, opd, bG, ofValue, aD, put, nth, aB, aL, aE, bor, aJ, aK, intOp, unOp, bC, branch, ↓reduceIte, Int.reduceLT, gt_iff_lt, g, Bool.false_eq_true, gL, gB]
 have gl := (nK g).1
 refine bF f2 (f58 v0 os xs h2 n2 ha g f2) fun v3 h3 n3 hn3 f3 ⟨s, L, I, e3, hx, s3, hS, o3⟩ => ?_
 subst e3
 have sn3 := s3.sn
 have hl := hS.n
 have hi := hS.m
 simp only [aC, fgr, hkr, execOp, opd, bG, aD, put, nth, aB, aL, aE, gL]
 rw [aM (RC s3 (by omega))]
 by_cases hI : I.length = 0
 ·have c0 : ((I.length : Nat) : Int) - 1 < 0 := by omega
  simp only [aC, fgr, execOp, opd, ofValue, aD, put, nth, aB, bor, aJ, aK, intOp, c0, gB]
 have c0 : ¬ ((I.length : Nat) : Int) - 1 < 0 := by omega
 have w2 : IntKind.i64.wrap (((I.length : Nat) : Int) - 1 + 1) = ((I.length : Nat) : Int) := by rw [w64 (by omega) (by omega)]; omega
 simp only [aC, tyr, fgr, hkr, execOp, opd, bG, ofValue, aD, put, nth, aB, aL, aE, und, lenOf, bor, aJ, aK, intOp, bU, dG, cW, convert, hU, qC, wz, c0, gL, gB]
 rw [aM (RC s3 (by omega))]
 simp only [aC, fgr, hkr, execOp, opd, bG, ofValue, aD, put, nth, aB, aL, aE, bor, aJ, aK, intOp, bU, decide_not, w2, gL, gB]
 have m0 : 0 ≤ a1.tmod ((I.length : Nat) : Int) := Int.tmod_nonneg _ hz.1
 have m1 : a1.tmod ((I.length : Nat) : Int) < ((I.length : Nat) : Int) := Int.tmod_lt_of_pos _ (by omega)
 obtain ⟨j0, ej⟩ : ∃ j0 : Nat, a1.tmod ((I.length : Nat) : Int) = ((j0 : Nat) : Int) := ⟨(a1.tmod ((I.length : Nat) : Int)).toNat, by omega⟩
 rw [ej] at m1 ⊢
 have cI : ¬ ((I.length : Nat) : Int) = 0 := by omega
 refine ⟨by rw [decide_eq_false cI]; rfl, ?_⟩
 refine bF f3 (f24 s3 (by omega) f3) fun v4 h4 n4 hn4 f4 ⟨l4, o4⟩ => ?_
 have s4 := s3.old hn4 o4
 simp only [aC, fgr, execOp, opd, bG, ofValue, aD, put, nth, aB, aL, builtin, dH, l4.len]
 refine K1 _ _ _ s n4 n3 j0 v4 _ _ L I h4 l4 hS (by omega) ?_ L.length 0 h4 n4 _ _ _ _ _ _ _ _ _ _ _ _ _ _ _ _ _ _ (by omega) s4 (Nat.le_refl _) f4 (Old.refl _ _)
 intro h5 n5 x0 x1 x4 x6 x7 x9 x10 x11 x12 x13 x14 x15 x16 x24 x30 x39 x40 x41 x42 x67 x70 x77 x109 x113 x136 f5
 simp only [aC, fgr, execOp, opd, aD, put, nth, aB, gB]
end Go.Am.Ytlgebaofkolkoaa
