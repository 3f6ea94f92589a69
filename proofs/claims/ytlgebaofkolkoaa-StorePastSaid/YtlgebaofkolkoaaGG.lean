/- What the statement reaches, gone through; and the abstract machine that goes through it. -/
import Derived.Test.YtlgebaofkolkoaaGF
set_option linter.unusedSimpArgs false
set_option linter.unusedVariables false
set_option linter.defProp false
set_option maxRecDepth 10000
namespace Go.Am.Ytlgebaofkolkoaa
open Go Go.Am Go.Proofs
theorem XT (Q : dI) (ks : List Kf) (v : a9) (a b : Nat) (z : Int) (l : List Ver) (h0 : Hp) (hl : l.length ≤ 900000) (hv : VL h0 a b v l) (hab : a ≤ b)
  (hT : ∀ (h : Hp) (n : Nat) (acc : a9) (cells : List a9) (x0 x1 x4 x9 x12 x20 x30 x36 : a9), Lst h 31 70 acc (trV z l).length cells → Vs h (fun j => a ≤ j ∧ j < n ∧ aP acc ≠ some j) cells (trV z l) → (∀ j, aP acc = some j → b ≤ j) → b ≤ n → aY h n → Old h0 h b →
   cV env 21 none Q ks (.exit 0) (x0 :: x1 :: .int .i64 z :: a9.aA :: x4 :: a9.aA :: .aN :: .int .i64 0 :: a9.aA :: x9 :: acc :: a9.aA :: x12 :: a9.aA :: a9.aA :: a9.aA :: a9.aA :: a9.aA :: a9.aA :: a9.aA :: x20 :: a9.aA :: a9.aA :: a9.aA :: a9.aA :: a9.aA :: a9.aA :: v :: .int .i64 (l.length : Nat) :: .int .i64 (l.length : Nat) :: x30 :: a9.aA :: a9.aA :: a9.aA :: a9.aA :: a9.aA :: x36 :: a9.aA :: a9.aA :: a9.aA :: a9.aA :: a9.aA :: a9.aA :: a9.aA :: a9.aA :: []) h n) :
  ∀ (m i : Nat) (h : Hp) (n : Nat) (acc : a9) (cells : List a9) (x0 x1 x4 x9 x12 x20 x30 x36 : a9), i + m = l.length → Lst h 31 70 acc (trV z (l.take i)).length cells → Vs h (fun j => a ≤ j ∧ j < n ∧ aP acc ≠ some j) cells (trV z (l.take i)) → (∀ j, aP acc = some j → b ≤ j) → b ≤ n → aY h n → Old h0 h b →
   Run env 21 none Q (.loop GI) ks (x0 :: x1 :: .int .i64 z :: a9.aA :: x4 :: a9.aA :: .aN :: .int .i64 0 :: a9.aA :: x9 :: acc :: a9.aA :: x12 :: a9.aA :: a9.aA :: a9.aA :: a9.aA :: a9.aA :: a9.aA :: a9.aA :: x20 :: a9.aA :: a9.aA :: a9.aA :: a9.aA :: a9.aA :: a9.aA :: v :: .int .i64 (l.length : Nat) :: .int .i64 (i : Nat) :: x30 :: a9.aA :: a9.aA :: a9.aA :: a9.aA :: a9.aA :: x36 :: a9.aA :: a9.aA :: a9.aA :: a9.aA :: a9.aA :: a9.aA :: a9.aA :: a9.aA :: []) h n := by
 intro m
 induction m with
 | zero =>
  intro i h n acc cells x0 x1 x4 x9 x12 x20 x30 x36 hm ha hV hi hn hf ho
  have : i = l.length := by omega
  subst this
  rw [List.take_length] at ha hV
  rw [bO]
  have hcc : ¬ (((l.length : Nat) : Int) < ((l.length : Nat) : Int)) := by omega
  simp only [GI, bC, Try.f21, Option.getD_some, fgr, bor, List.getD_cons_zero, hcc, gE]
  exact hT h n acc cells _ _ _ _ _ _ _ _ ha hV hi hn hf ho
 | succ m ih =>
  intro i h n acc cells x0 x1 x4 x9 x12 x20 x30 x36 hm ha hV hi hn hf ho
  have hv' := hv.old (Nat.le_refl _) ho
  have hil : i < l.length := by omega
  have hcc : (((i : Nat) : Int) < ((l.length : Nat) : Int)) := by omega
  have w1 : IntKind.i64.wrap (((i : Nat) : Int) + 1) = ((i + 1 : Nat) : Int) := by rw [w64 (by omega) (by omega)]; omega
  obtain ⟨sw, va⟩ := hv'.at_ hil
  have hs := ag3 hil z
  generalize l[i] = w at *
  rw [bO]
  simp only [GI, bC, Try.f21, Option.getD_some, fgr, bor, List.getD_cons_zero, hcc, gE]
  rw [aE (hv'.idx hil)]
  simp only [gE]
  rw [aE (va.all n)]
  simp only [gE]
  rw [bU cY rfl]
  simp only [cel, gE]
  have kd := va.s.kind
  refine cK (v := .agg (aK w sw)) cY rfl (aZ va.ok.h va.ok.b) (c8 kd.2.1) hf fun H1 r1 p1 f1 => ?_
  replace r1 : Row H1 n (aK w sw) := r1
  have accl : ∀ j, aP acc = some j → j < n := fun j q => ha.dL hf q
  have O1 : Old h0 H1 b := fun j hj => by rw [p1 j (by omega), ho j hj]
  have ha1 := ha.aM (h' := H1) fun j q => p1 j (by have := accl j q; omega)
  have hV1 := hV.mono (h' := H1) (D' := fun j => a ≤ j ∧ j < n + 1 ∧ aP acc ≠ some j) (fun j q => ⟨q.1, by omega, q.2.2⟩) (fun j q => p1 j (by omega))
  simp only [tyr, fgr, aR, gE]
  rw [aE (eX r1 va.ok)]
  by_cases c : w.made ≤ z
  ·rw [if_pos c] at hs
   simp only [fgr, bor, c, gE]
   rw [aE (dO r1 va.ok)]
   simp only [hkr, gE]
   refine aQ f1 (f62 w sw z va.ok kd H1 (n + 1) f1) fun v2 h2 n2 hn2 f2 ⟨e2, o2⟩ => ?_
   subst e2
   have okB := S9 va.ok z
   simp only [LB (aZ okB.h okB.b), gE]
   refine gT cY f2 (f := fun id => a9.sl id 0 1 (some 1) 70) fun H3 g3 o3 f3 => ?_
   simp only [builtin, gE]
   have o13 : Old H1 H3 (n + 1) := fun j hj => by rw [o3 j (by omega), o2 j hj]
   have ha3 := ha1.aM (h' := H3) (fun j q => o13 j (by have := accl j q; omega))
   have hV3 := hV1.mono (h' := H3) (D' := fun j => a ≤ j ∧ j < n + 1 ∧ aP acc ≠ some j) (fun j q => q) (fun j q => o13 j q.2.1)
   have hlen : (trV z (l.take i)).length ≤ 900000 := by
    have h1 := uW z (l.take i)
    have h2 : (l.take i).length ≤ l.length := by rw [List.length_take]; omega
    omega
   refine dP (i := eK.i) (e := 31) ha3 (kY (cnt := 1) g3 (by rw [aZ okB.h okB.b]; rfl)) u43 u43 cY (c8 kd.2.1) (by decide) (by show 2 * (_ + 1) * 128 ≤ _; omega) (by omega) f3 ?_
   intro acc' h4 n4 hn4 f4 l4 i4 o4
   simp only [fgr, bor, bZ, w1, gE]
   have i4' : ∀ j, aP acc' = some j → b ≤ j := fun j q => by
    rcases i4 with w | ⟨w, _⟩
    ·rw [w] at q; exact hi j q
    ·rw [w] at q; injection q with q; omega
   have hne : ∀ j, j < n2 + 1 → aP acc ≠ some j → aP acc' ≠ some j := fun j hj hn q => by
    rcases i4 with w | ⟨w, _⟩
    ·rw [w] at q; exact hn q
    ·rw [w] at q; injection q with q; omega
   have hV4 := hV3.mono (h' := h4) (D' := fun j => a ≤ j ∧ j < n4 ∧ aP acc' ≠ some j) (fun j q => ⟨q.1, by omega, hne j (by omega) q.2.2⟩) (fun j q => o4 j (by omega) q.2.2)
   have swl : ∀ j, aP sw = some j → a ≤ j ∧ j < b := va.sn
   have swa : ∀ j, aP sw = some j → aP acc ≠ some j := fun j q w => by have := hi j w; have := swl j q; omega
   have b4 : Bytes h4 sw (asV z w).aJ := by
    rw [oW]
    exact va.s.aM fun j q => by
     have := swl j q
     rw [o4 j (by omega) (swa j q), o13 j (by omega), p1 j (by omega)]
   have hV5 := hV4.zH b4 okB (fun j q => ⟨(swl j q).1, by have := swl j q; omega, hne j (by have := swl j q; omega) (swa j q)⟩)
   rw [← hs] at hV5
   have l5 : Lst h4 31 70 acc' (trV z (l.take (i + 1))).length (cells ++ aK (asV z w) sw) := by
    rw [hs, List.length_append]; exact l4
   exact ih (i + 1) h4 n4 acc' _ _ _ _ _ _ _ _ _ (by omega) l5 hV5 i4' (by omega) f4 (fun j hj => by rw [o4 j (by omega) (fun q => by have := hi j q; omega), o13 j (by omega), O1 j hj])
  ·rw [if_neg c] at hs
   rw [← hs] at ha1 hV1
   simp only [fgr, bor, bZ, c, w1, gE]
   exact ih (i + 1) H1 (n + 1) acc cells _ _ _ _ _ _ _ _ (by omega) ha1 hV1 hi (by omega) f1 O1
theorem f21 {W : Nat → Prop} {h : Hp} {n s : Nat} {L : List Ver} {I : List Inf} (q : St W h n s L I) (aI : List UInt8) (pn z : Int) (hl : aI.length = 32) (hI : I.length ≤ 900000) (hL : L.length ≤ 900000) (hf : aY h n) :
  Wp (bH env (aV env) 21 [.ptr s 0, .agg (aS aI pn), .int .i64 z]) h n fun v' h' n' => Old h h' n ∧ ∃ u, v' = .tup [u, .int .i64 (nQ (hO I z))] ∧ VL h' n n' u (jU L I aI pn z) := by
 refine aU aP2 aD4 ?_
 simp only [ZO, Try.f21, Option.getD_some, List.replicate, Nat.reduceAdd, Nat.reduceSub, gE]
 refine cG (v := .agg (aS aI pn)) gG rfl hf fun H1 r1 o1 f1 => ?_
 replace r1 : Row H1 n (aS aI pn) := r1
 have O1 : Old h H1 n := fun j hj => o1 j (by omega)
 have q1 := q.old (n' := n + 1) (by omega) O1
 simp only [fgr, hkr, gE]
 refine aQ f1 (f25 q1 z (by omega) f1) fun v3 h3 n3 hn3 f3 ⟨e3, ob3, o3⟩ => ?_
 subst e3
 simp only [gE]
 rw [bU fQ rfl]
 simp only [cel, gE]
 refine cK (v := .agg (bK ((hO I z).getD fW))) fQ rfl (bQ ob3) (dR _) f3 fun H4 r4 o4 f4 => ?_
 have OO : ∀ j, j < n + 1 → H4 j = H1 j := fun j hj => by rw [o4 j (by omega), o3 j hj]
 have O4 : Old h H4 n := fun j hj => by rw [OO j (by omega), O1 j hj]
 have q4 := q.old (n' := n3 + 1) (by omega) O4
 cases hi : hO I z with
 | none =>
  have hc : jU L I aI pn z = [] := by unfold jU; rw [hi]
  rw [hc]
  simp only [fgr, bor, Int.reduceEq, nQ, gE]
  exact ⟨O4, .aN, rfl, [], .nil, Vs.nil _ _, fun j w => by cases w⟩
 | some i =>
  have hc : jU L I aI pn z = trV z (oL L aI pn) := by unfold jU; rw [hi]
  rw [hc]
  obtain ⟨x, lv, rs, ix, il, sa, sb, sc⟩ := q4
  have r14 : Row H4 n (aS aI pn) := r1.aM (OO n (by omega))
  simp only [fgr, bor, nQ, gE]
  refine bW ⟨rfl, ?_⟩
  simp only [tyr, aR, Nat.reduceAdd, gE]
  rw [aW (rs.one (off := 0) rfl pD rfl)]
  simp only [Nat.reduceAdd, gE]
  have hld : Rd (load env 28 (.ptr n 0)) H4 (n3 + 1) [n] (.agg (aS aI pn)) := Row.eF r14 gG rfl (bM hl)
  rw [aW hld]
  simp only [hkr, Nat.reduceAdd, gE]
  refine cU f4 (aQ3 aI pn hl ix.k hL f4) fun v5 h5 n5 rr5 ww5 hn5 f5 ⟨l5, o5⟩ => ?_
  simp only [fgr, builtin, Nat.reduceAdd, l5.len, gE]
  refine ⟨(by (try simp (disch := first | assumption | omega) only [cJ, gF]); repeat' (first | rfl | exact (Bool.or_eq_true _ _).mpr (.inr rfl) | refine (Bool.and_eq_true _ _).mpr ⟨?_, ?_⟩)), ?_⟩
  have hlen : (oL L aI pn).length ≤ 900000 := Nat.le_trans (List.length_filter_le _ _) hL
  refine XT _ _ v5 (n3 + 1) n5 z (oL L aI pn) h5 hlen l5 hn5 ?_ (oL L aI pn).length 0 h5 n5 .aN [] _ _ _ _ _ _ _ _ (by omega) .nil (Vs.nil _ _) (fun j w => by cases w) (Nat.le_refl _) f5 (Old.refl _ _)
  intro h6 n6 acc cells x0 x1 x4 x9 x12 x20 x30 x36 l6 v6 i6 hn6 f6 o6
  simp only [fgr, gE]
  exact ⟨fun j hj => by rw [o6 j (by omega), o5 j (by omega), O4 j hj], acc, rfl, cells, l6, v6.mono (fun j w => ⟨by omega, w.2.1, w.2.2⟩) (fun j w => rfl), fun j w => ⟨by have := i6 j w; omega, l6.dL f6 w⟩⟩
theorem k48 : Try.prog.cellsOf 48 = 65 := by kernel_rfl
theorem k43 : Try.prog.cellsOf 43 = 1 := by kernel_rfl
theorem k44 : Try.prog.cellsOf 44 = 1 := by kernel_rfl
theorem k46 : Try.prog.cellsOf 46 = 37 := by kernel_rfl
theorem Y4 : Try.prog.cellsOf 105 = 40 := by kernel_rfl
theorem UT {vs : List a9} (ha : Arg Try.prog 48 vs) : ∃ s : Spd, vs = eJ s ∧ s.Ok ∧ 0 ≤ s.pn := by
 obtain ⟨hl, he⟩ := ha.lJ Try.underlying48
 rw [k48] at hl
 have q0 : Arg Try.prog 28 ((vs.drop 0).take (Try.prog.cellsOf 28)) := he 0 _ rfl
 have q1 : Arg Try.prog 25 ((vs.drop 33).take (Try.prog.cellsOf 25)) := he 1 _ rfl
 rw [k28] at q0
 rw [k25] at q1
 obtain ⟨aI, pn, e0, hh, hp⟩ := vR q0
 obtain ⟨by_, e1, hby⟩ := uP q1
 refine ⟨⟨aI, pn, by_⟩, ?_, ⟨hh, hby⟩, hp⟩
 have c0 := mW vs 0 33
 rw [List.drop_zero] at c0
 rw [List.drop_zero] at e0
 rw [e0, mW vs (0 + 33) 32, e1, List.drop_eq_nil_of_le (show vs.length ≤ 0 + 33 + 32 by omega)] at c0
 rw [c0]
 simp [eJ]
structure FJ (a : a9) (vs : List Ver) (xs : List a9) : Prop where
 rd : ∀ h, Rds h 70 a vs.length xs
 id : aP a = none
 len : vs.length ≤ maxLen
 at_ : ∀ j (hj : j < vs.length), ∃ sv, (xs.drop (j * 70)).take 70 = aK vs[j] sv ∧ HV vs[j] sv
theorem ad0 {a : a9} (ha : Arg Try.prog 43 [a]) : ∃ vs xs, FJ a vs xs := by
 rcases ha.qY Try.underlying43 (by rw [k31]; omega) with h | ⟨f, len, h, hl, hx⟩
 ·injection h with h; subst h
  exact ⟨[], [], fun h => .aN, rfl, Nat.zero_le _, fun j hj => by simp at hj⟩
 ·injection h with h
  subst h
  rw [k31] at hx ⊢
  have each : ∀ i, ∃ p : Ver × a9, i < len → cut f (i * 70) 70 = aK p.1 p.2 ∧ HV p.1 p.2 := fun i => by
   by_cases hi : i < len
   ·obtain ⟨v, sv, e, hv⟩ := US (hx i hi)
    exact ⟨(v, sv), fun _ => ⟨e, hv⟩⟩
   ·exact ⟨(noV, .aN), fun q => absurd q hi⟩
  obtain ⟨b, hb⟩ := Classical.axiomOfChoice each
  refine ⟨(List.range len).map fun i => (b i).1, cut f 0 (len * 70), fun h => ?_, rfl, by simpa using hl, fun j hj => ?_⟩
  ·have := Rds.isl (h := h) (sz := 70) f 0 len (cut f 0 (len * 70)) (by rw [CM]) (fun j hj => by rw [uK])
   simpa using this
  ·simp only [List.length_map, List.length_range] at hj
   simp only [List.getElem_map, List.getElem_range]
   rw [CL _ _ _ _ _ (by omega), Nat.zero_add]
   exact ⟨(b j).2, hb j hj⟩
structure JF (a : a9) (ss : List Spd) (xs : List a9) : Prop where
 rd : ∀ h, Rds h 65 a ss.length xs
 id : aP a = none
 len : ss.length ≤ maxLen
 at_ : ∀ j (hj : j < ss.length), (xs.drop (j * 65)).take 65 = eJ ss[j] ∧ ss[j].Ok ∧ 0 ≤ ss[j].pn
theorem ad2 {a : a9} (ha : Arg Try.prog 44 [a]) : ∃ ss xs, JF a ss xs := by
 rcases ha.qY Try.underlying44 (by rw [k48]; omega) with h | ⟨f, len, h, hl, hx⟩
 ·injection h with h; subst h
  exact ⟨[], [], fun h => .aN, rfl, Nat.zero_le _, fun j hj => by simp at hj⟩
 ·injection h with h
  subst h
  rw [k48] at hx ⊢
  have each : ∀ i, ∃ p : Spd, i < len → cut f (i * 65) 65 = eJ p ∧ p.Ok ∧ 0 ≤ p.pn := fun i => by
   by_cases hi : i < len
   ·obtain ⟨v, e, hv⟩ := UT (hx i hi)
    exact ⟨v, fun _ => ⟨e, hv⟩⟩
   ·exact ⟨⟨[], 0, []⟩, fun q => absurd q hi⟩
  obtain ⟨b, hb⟩ := Classical.axiomOfChoice each
  refine ⟨(List.range len).map fun i => b i, cut f 0 (len * 65), fun h => ?_, rfl, by simpa using hl, fun j hj => ?_⟩
  ·have := Rds.isl (h := h) (sz := 65) f 0 len (cut f 0 (len * 65)) (by rw [CM]) (fun j hj => by rw [uK])
   simpa using this
  ·simp only [List.length_map, List.length_range] at hj
   simp only [List.getElem_map, List.getElem_range]
   rw [CL _ _ _ _ _ (by omega), Nat.zero_add]
   exact hb j hj
structure tF (A : App) (mv sv : a9) : Prop where
 m : ∃ xs, FJ mv A.made xs
 s : ∃ xs, JF sv A.bR xs
 b : A.block.length = 32
theorem UU {vs : List a9} (ha : Arg Try.prog 46 vs) : ∃ A mv sv, vs = aX A mv sv ∧ tF A mv sv := by
 obtain ⟨hl, he⟩ := ha.lJ Try.underlying46
 rw [k46] at hl
 have q0 : Arg Try.prog 3 ((vs.drop 0).take (Try.prog.cellsOf 3)) := he 0 _ rfl
 have q1 : Arg Try.prog 25 ((vs.drop 1).take (Try.prog.cellsOf 25)) := he 1 _ rfl
 have q2 : Arg Try.prog 43 ((vs.drop 33).take (Try.prog.cellsOf 43)) := he 2 _ rfl
 have q3 : Arg Try.prog 44 ((vs.drop 34).take (Try.prog.cellsOf 44)) := he 3 _ rfl
 have q4 : Arg Try.prog 2 ((vs.drop 35).take (Try.prog.cellsOf 2)) := he 4 _ rfl
 have q5 : Arg Try.prog 2 ((vs.drop 36).take (Try.prog.cellsOf 2)) := he 5 _ rfl
 rw [k3] at q0
 rw [k25] at q1
 rw [k43] at q2
 rw [k44] at q3
 rw [k2] at q4 q5
 obtain ⟨bJ, e0, _⟩ := q0.cH Try.underlying3
 obtain ⟨block, e1, hb⟩ := uP q1
 obtain ⟨mv, e2⟩ : ∃ mv, (vs.drop 33).take 1 = [mv] := List.length_eq_one_iff.1 (by simp; omega)
 obtain ⟨sv, e3⟩ : ∃ sv, (vs.drop 34).take 1 = [sv] := List.length_eq_one_iff.1 (by simp; omega)
 rw [e2] at q2
 rw [e3] at q3
 obtain ⟨made, xs, hm⟩ := ad0 q2
 obtain ⟨bR, ys, hs⟩ := ad2 q3
 obtain ⟨eD, e4, _⟩ := q4.cH Try.underlying2
 obtain ⟨left, e5, _⟩ := q5.cH Try.underlying2
 refine ⟨⟨bJ, block, made, bR, eD, left⟩, mv, sv, ?_, ⟨xs, hm⟩, ⟨ys, hs⟩, hb⟩
 have c0 := mW vs 0 1
 rw [List.drop_zero] at c0
 rw [List.drop_zero] at e0
 rw [e0, mW vs (0 + 1) 32, e1, mW vs (0 + 1 + 32) 1, e2, mW vs (0 + 1 + 32 + 1) 1, e3, mW vs (0 + 1 + 32 + 1 + 1) 1, e4, mW vs (0 + 1 + 32 + 1 + 1 + 1) 1, e5, List.drop_eq_nil_of_le (show vs.length ≤ 0 + 1 + 32 + 1 + 1 + 1 + 1 by omega)] at c0
 rw [c0]
 simp [aX]
structure OpS where
 kind : Int
 A : App
 next : Bool
 num : Int
def cT (o : OpS) (mv sv : a9) : List a9 := .int .i64 o.kind :: (aX o.A mv sv ++ [.bool o.next, .int .i64 o.num])
theorem ad3 {vs : List a9} (ha : Arg Try.prog 105 vs) : ∃ o mv sv, vs = cT o mv sv ∧ tF o.A mv sv ∧ (Lit.int .i64 o.num).wf = true := by
 obtain ⟨hl, he⟩ := ha.lJ Try.underlying105
 rw [Y4] at hl
 have q0 : Arg Try.prog 3 ((vs.drop 0).take (Try.prog.cellsOf 3)) := he 0 _ rfl
 have q1 : Arg Try.prog 46 ((vs.drop 1).take (Try.prog.cellsOf 46)) := he 1 _ rfl
 have q2 : Arg Try.prog 4 ((vs.drop 38).take (Try.prog.cellsOf 4)) := he 2 _ rfl
 have q3 : Arg Try.prog 3 ((vs.drop 39).take (Try.prog.cellsOf 3)) := he 3 _ rfl
 rw [k3] at q0 q3
 rw [k46] at q1
 rw [k4] at q2
 obtain ⟨kind, e0, _⟩ := q0.cH Try.underlying3
 obtain ⟨A, mv, sv, e1, hA⟩ := UU q1
 obtain ⟨nx, e2⟩ := q2.iP Try.underlying4
 obtain ⟨num, e3, hw⟩ := q3.cH Try.underlying3
 refine ⟨⟨kind, A, nx, num⟩, mv, sv, ?_, hA, hw⟩
 have c0 := mW vs 0 1
 rw [List.drop_zero] at c0
 rw [List.drop_zero] at e0
 rw [e0, mW vs (0 + 1) 37, e1, mW vs (0 + 1 + 37) 1, e2, mW vs (0 + 1 + 37 + 1) 1, e3, List.drop_eq_nil_of_le (show vs.length ≤ 0 + 1 + 37 + 1 + 1 by omega)] at c0
 rw [c0]
 simp [cT]
structure zA (a : a9) (os : List OpS) (xs : List a9) : Prop where
 rd : ∀ h, Rds h 40 a os.length xs
 id : aP a = none
 len : os.length ≤ maxLen
 at_ : ∀ j (hj : j < os.length), ∃ mv sv, (xs.drop (j * 40)).take 40 = cT os[j] mv sv ∧ tF os[j].A mv sv ∧ (Lit.int .i64 os[j].num).wf = true
theorem ad1 {a : a9} (ha : Arg Try.prog 101 [a]) : ∃ os xs, zA a os xs := by
 rcases ha.qY Try.underlying101 (by rw [Y4]; omega) with h | ⟨f, len, h, hl, hx⟩
 ·injection h with h; subst h
  exact ⟨[], [], fun h => .aN, rfl, Nat.zero_le _, fun j hj => by simp at hj⟩
 ·injection h with h
  subst h
  rw [Y4] at hx ⊢
  have each : ∀ i, ∃ p : OpS × a9 × a9, i < len → cut f (i * 40) 40 = cT p.1 p.2.1 p.2.2 ∧ tF p.1.A p.2.1 p.2.2 ∧ (Lit.int .i64 p.1.num).wf = true := fun i => by
   by_cases hi : i < len
   ·obtain ⟨o, mv, sv, e⟩ := ad3 (hx i hi)
    exact ⟨(o, mv, sv), fun _ => e⟩
   ·exact ⟨(⟨0, ⟨0, [], [], [], 0, 0⟩, false, 0⟩, .aN, .aN), fun q => absurd q hi⟩
  obtain ⟨b, hb⟩ := Classical.axiomOfChoice each
  refine ⟨(List.range len).map fun i => (b i).1, cut f 0 (len * 40), fun h => ?_, rfl, by simpa using hl, fun j hj => ?_⟩
  ·have := Rds.isl (h := h) (sz := 40) f 0 len (cut f 0 (len * 40)) (by rw [CM]) (fun j hj => by rw [uK])
   simpa using this
  ·simp only [List.length_map, List.length_range] at hj
   simp only [List.getElem_map, List.getElem_range]
   rw [CL _ _ _ _ _ (by omega), Nat.zero_add]
   exact ⟨(b j).2.1, (b j).2.2, hb j hj⟩
theorem D8 : und env 101 = M.pure (.slice 105) := rfl
theorem LM : sizeOf env 105 = M.pure 40 := rfl
theorem ai8 {o : OpS} {mv sv : a9} (hb : o.A.block.length = 32) : (cT o mv sv)[34]? = some mv := by
 unfold cT
 rw [List.getElem?_cons_succ, List.getElem?_append_left (by rw [cD hb]; omega)]
 exact nZ hb 0
theorem ax6 {o : OpS} {mv sv : a9} (hb : o.A.block.length = 32) : (cT o mv sv)[35]? = some sv := by
 unfold cT
 rw [List.getElem?_cons_succ, List.getElem?_append_left (by rw [cD hb]; omega)]
 exact nZ hb 1
def A9 (v : Ver) : Bool := decide (200 < v.aJ.length)
def pU (o : OpS) : Bool := decide (20 < o.A.made.length) || decide (20 < o.A.bR.length) || o.A.made.any A9
def oN (os : List OpS) : Bool := decide (30 < os.length) || os.any pU
theorem P0 (Q : dI) (ks : List Kf) (a mv sv : a9) (os : List OpS) (xs ys : List a9) (i : Nat) (o : OpS) (h : Hp) (n : Nat) (ha : zA a os xs) (hi : i < os.length) (he : (xs.drop (i * 40)).take 40 = cT o mv sv) (hb : o.A.block.length = 32) (hm : FJ mv o.A.made ys)
  (hq : ∀ (x2 x4 x7 x11 x30 x39 x52 : a9), o.A.made.any A9 = false → cV env 57 none Q ks (.exit 2) (a :: a9.aA :: x2 :: .int .i64 (i : Nat) :: x4 :: a9.aA :: a9.aA :: x7 :: a9.aA :: .int .i64 (os.length : Nat) :: .int .i64 (i : Nat) :: x11 :: a9.aA :: a9.aA :: a9.aA :: a9.aA :: a9.aA :: a9.aA :: a9.aA :: a9.aA :: a9.aA :: a9.aA :: a9.aA :: a9.aA :: a9.aA :: a9.aA :: a9.aA :: a9.aA :: a9.aA :: a9.aA :: x30 :: a9.aA :: a9.aA :: a9.aA :: a9.aA :: a9.aA :: a9.aA :: .int .i64 (o.A.made.length : Nat) :: .int .i64 (o.A.made.length : Nat) :: x39 :: a9.aA :: a9.aA :: a9.aA :: a9.aA :: a9.aA :: a9.aA :: a9.aA :: a9.aA :: a9.aA :: a9.aA :: a9.aA :: a9.aA :: x52 :: a9.aA :: a9.aA :: []) h n)
  (hr : ∀ (x0 x3 x4 x7 x9 x10 x11 x30 x37 x38 x39 x52 : a9), o.A.made.any A9 = true → cV env 57 none Q ks .ret (x0 :: a9.aA :: .int .i64 1 :: x3 :: x4 :: a9.aA :: a9.aA :: x7 :: a9.aA :: x9 :: x10 :: x11 :: a9.aA :: a9.aA :: a9.aA :: a9.aA :: a9.aA :: a9.aA :: a9.aA :: a9.aA :: a9.aA :: a9.aA :: a9.aA :: a9.aA :: a9.aA :: a9.aA :: a9.aA :: a9.aA :: a9.aA :: a9.aA :: x30 :: a9.aA :: a9.aA :: a9.aA :: a9.aA :: a9.aA :: a9.aA :: x37 :: x38 :: x39 :: a9.aA :: a9.aA :: a9.aA :: a9.aA :: a9.aA :: a9.aA :: a9.aA :: a9.aA :: a9.aA :: a9.aA :: a9.aA :: a9.aA :: x52 :: a9.aA :: a9.aA :: []) h n) :
  ∀ (m k : Nat) (x2 x4 x7 x11 x30 x39 x52 : a9), k + m = o.A.made.length → (o.A.made.take k).any A9 = false →
  Run env 57 none Q (.loop GD) ks (a :: a9.aA :: x2 :: .int .i64 (i : Nat) :: x4 :: a9.aA :: a9.aA :: x7 :: a9.aA :: .int .i64 (os.length : Nat) :: .int .i64 (i : Nat) :: x11 :: a9.aA :: a9.aA :: a9.aA :: a9.aA :: a9.aA :: a9.aA :: a9.aA :: a9.aA :: a9.aA :: a9.aA :: a9.aA :: a9.aA :: a9.aA :: a9.aA :: a9.aA :: a9.aA :: a9.aA :: a9.aA :: x30 :: a9.aA :: a9.aA :: a9.aA :: a9.aA :: a9.aA :: a9.aA :: .int .i64 (o.A.made.length : Nat) :: .int .i64 (k : Nat) :: x39 :: a9.aA :: a9.aA :: a9.aA :: a9.aA :: a9.aA :: a9.aA :: a9.aA :: a9.aA :: a9.aA :: a9.aA :: a9.aA :: a9.aA :: x52 :: a9.aA :: a9.aA :: []) h n := by
 have hlen := hm.len
 have hmax : maxLen = 9223372036854775807 := rfl
 intro m
 induction m with
 | zero =>
  intro k x2 x4 x7 x11 x30 x39 x52 hk hs
  have : k = o.A.made.length := by omega
  subst this
  have hc : ¬ ((o.A.made.length : Nat) : Int) < ((o.A.made.length : Nat) : Int) := by omega
  rw [bO]
  simp only [GD, bC, Try.f57, Option.getD_some, fgr, bor, List.getD_cons_zero, List.getD_cons_succ, hc, gE]
  rw [List.take_length] at hs
  exact hq _ _ _ _ _ _ _ hs
 | succ m ih =>
  intro k x2 x4 x7 x11 x30 x39 x52 hk hs
  have hil : k < o.A.made.length := by omega
  have hc : ((k : Nat) : Int) < ((o.A.made.length : Nat) : Int) := by omega
  have hwr : IntKind.i64.wrap (((k : Nat) : Int) + 1) = ((k + 1 : Nat) : Int) := by rw [w64 (by omega) (by omega)]; omega
  have hr0 := ha.rd h
  have m1 := iQ hr0 (by omega) (i * 40) 1
  have m2 := iQ hr0 (by omega) (i * 40 + 1) 33
  have hx : xs[i * 40 + 1 + 33]? = some mv := by
   rw [show i * 40 + 1 + 33 = i * 40 + 34 by omega, tP he (by omega)]
   exact ai8 hb
  obtain ⟨sw, e, hv⟩ := hm.at_ k hil
  have hr1 := hm.rd h
  have m3 := iQ hr1 (by omega) (k * 70) 35
  have hy : ys[k * 70 + 35]? = some sw := by
   rw [tP e (by omega)]
   exact jH hv.ok.h 2
  rw [bO]
  simp only [GD, bC, Try.f57, Option.getD_some, fgr, bor, List.getD_cons_zero, List.getD_cons_succ, hc, gE]
  rw [aE (hr0.idx (j := i) D8 LM rfl hi)]
  simp only [tyr, m1, m2, gE]
  rw [aE (hr0.load (k := i * 40 + 1 + 33) pJ rfl hx)]
  simp only [gE]
  rw [aE (hr1.idx (j := k) u43 LL rfl hil)]
  simp only [tyr, m3, gE]
  rw [aE (hr1.load (k := k * 70 + 35) uY rfl hy)]
  by_cases hov : 200 < o.A.made[k].aJ.length
  ·have hc2 : 200 < ((o.A.made[k].aJ.length : Nat) : Int) := by omega
   simp only [fgr, builtin, bor, gt_iff_lt, (hv.s.bytes h).cA t29, hc2, gE]
   exact hr _ _ _ _ _ _ _ _ _ _ _ _ (List.any_eq_true.2 ⟨_, List.getElem_mem hil, decide_eq_true hov⟩)
  ·have hc2 : ¬ 200 < ((o.A.made[k].aJ.length : Nat) : Int) := by omega
   simp only [fgr, builtin, bor, bZ, gt_iff_lt, (hv.s.bytes h).cA t29, hc2, hwr, gE]
   refine ih (k + 1) _ _ _ _ _ _ _ (by omega) ?_
   rw [List.take_add_one, List.getElem?_eq_getElem hil, Option.toList_some, List.any_append, hs]
   simp [A9, hov]
theorem P1 (Q : dI) (ks : List Kf) (a : a9) (os : List OpS) (xs : List a9) (h : Hp) (n : Nat) (ha : zA a os xs)
  (hq : ∀ (x2 x3 x4 x7 x11 x30 x37 x38 x39 x52 : a9), os.any pU = false → cV env 57 none Q ks (.exit 0) (a :: a9.aA :: x2 :: x3 :: x4 :: a9.aA :: a9.aA :: x7 :: a9.aA :: .int .i64 (os.length : Nat) :: .int .i64 (os.length : Nat) :: x11 :: a9.aA :: a9.aA :: a9.aA :: a9.aA :: a9.aA :: a9.aA :: a9.aA :: a9.aA :: a9.aA :: a9.aA :: a9.aA :: a9.aA :: a9.aA :: a9.aA :: a9.aA :: a9.aA :: a9.aA :: a9.aA :: x30 :: a9.aA :: a9.aA :: a9.aA :: a9.aA :: a9.aA :: a9.aA :: x37 :: x38 :: x39 :: a9.aA :: a9.aA :: a9.aA :: a9.aA :: a9.aA :: a9.aA :: a9.aA :: a9.aA :: a9.aA :: a9.aA :: a9.aA :: a9.aA :: x52 :: a9.aA :: a9.aA :: []) h n)
  (hr : ∀ (x0 x3 x4 x7 x9 x10 x11 x30 x37 x38 x39 x52 : a9), os.any pU = true → cV env 57 none Q ks .ret (x0 :: a9.aA :: .int .i64 1 :: x3 :: x4 :: a9.aA :: a9.aA :: x7 :: a9.aA :: x9 :: x10 :: x11 :: a9.aA :: a9.aA :: a9.aA :: a9.aA :: a9.aA :: a9.aA :: a9.aA :: a9.aA :: a9.aA :: a9.aA :: a9.aA :: a9.aA :: a9.aA :: a9.aA :: a9.aA :: a9.aA :: a9.aA :: a9.aA :: x30 :: a9.aA :: a9.aA :: a9.aA :: a9.aA :: a9.aA :: a9.aA :: x37 :: x38 :: x39 :: a9.aA :: a9.aA :: a9.aA :: a9.aA :: a9.aA :: a9.aA :: a9.aA :: a9.aA :: a9.aA :: a9.aA :: a9.aA :: a9.aA :: x52 :: a9.aA :: a9.aA :: []) h n) :
  ∀ (m i : Nat) (x2 x3 x4 x7 x11 x30 x37 x38 x39 x52 : a9), i + m = os.length → (os.take i).any pU = false →
  Run env 57 none Q (.loop GF) ks (a :: a9.aA :: x2 :: x3 :: x4 :: a9.aA :: a9.aA :: x7 :: a9.aA :: .int .i64 (os.length : Nat) :: .int .i64 (i : Nat) :: x11 :: a9.aA :: a9.aA :: a9.aA :: a9.aA :: a9.aA :: a9.aA :: a9.aA :: a9.aA :: a9.aA :: a9.aA :: a9.aA :: a9.aA :: a9.aA :: a9.aA :: a9.aA :: a9.aA :: a9.aA :: a9.aA :: x30 :: a9.aA :: a9.aA :: a9.aA :: a9.aA :: a9.aA :: a9.aA :: x37 :: x38 :: x39 :: a9.aA :: a9.aA :: a9.aA :: a9.aA :: a9.aA :: a9.aA :: a9.aA :: a9.aA :: a9.aA :: a9.aA :: a9.aA :: a9.aA :: x52 :: a9.aA :: a9.aA :: []) h n := by
 have hlen := ha.len
 have hmax : maxLen = 9223372036854775807 := rfl
 intro m
 induction m with
 | zero =>
  intro i x2 x3 x4 x7 x11 x30 x37 x38 x39 x52 hi hs
  have : i = os.length := by omega
  subst this
  have hc : ¬ ((os.length : Nat) : Int) < ((os.length : Nat) : Int) := by omega
  rw [bO]
  simp only [GF, bC, Try.f57, Option.getD_some, fgr, bor, List.getD_cons_zero, hc, gE]
  rw [List.take_length] at hs
  exact hq _ _ _ _ _ _ _ _ _ _ hs
 | succ m ih =>
  intro i x2 x3 x4 x7 x11 x30 x37 x38 x39 x52 hi hs
  have hil : i < os.length := by omega
  have hc : ((i : Nat) : Int) < ((os.length : Nat) : Int) := by omega
  have hwr : IntKind.i64.wrap (((i : Nat) : Int) + 1) = ((i + 1 : Nat) : Int) := by rw [w64 (by omega) (by omega)]; omega
  obtain ⟨mv, sv, he, ⟨⟨ys, hm⟩, ⟨zs, hss⟩, hb⟩, _⟩ := ha.at_ i hil
  have hr0 := ha.rd h
  have m1 := iQ hr0 (by omega) (i * 40) 1
  have m2 := iQ hr0 (by omega) (i * 40 + 1) 33
  have m3 := iQ hr0 (by omega) (i * 40 + 1) 34
  have hx : xs[i * 40 + 1 + 33]? = some mv := by
   rw [show i * 40 + 1 + 33 = i * 40 + 34 by omega, tP he (by omega)]
   exact ai8 hb
  have hx2 : xs[i * 40 + 1 + 34]? = some sv := by
   rw [show i * 40 + 1 + 34 = i * 40 + 35 by omega, tP he (by omega)]
   exact ax6 hb
  have hov : ∀ b, pU os[i] = b → (os.take (i + 1)).any pU = b := fun b q => by
   rw [List.take_add_one, List.getElem?_eq_getElem hil, Option.toList_some, List.any_append, hs]
   simp [q]
  have hmem := List.getElem_mem hil
  have lm := (hm.rd h).cA (E := env) (t := 43) (ts := []) u43
  have ls := (hss.rd h).cA (E := env) (t := 44) (ts := []) u44
  rw [bO]
  simp only [GF, bC, Try.f57, Option.getD_some, fgr, bor, List.getD_cons_zero, hc, gE]
  rw [aE (hr0.idx (j := i) D8 LM rfl hil)]
  simp only [tyr, m1, m2, gE]
  rw [aE (hr0.load (k := i * 40 + 1 + 33) pJ rfl hx)]
  simp only [builtin, bor, gt_iff_lt, lm, gE]
  by_cases c1 : 20 < os[i].A.made.length
  ·have c1' : 20 < ((os[i].A.made.length : Nat) : Int) := by omega
   simp only [fgr, bE, c1', gE]
   exact hr _ _ _ _ _ _ _ _ _ _ _ _ (List.any_eq_true.2 ⟨_, hmem, by simp [pU, c1]⟩)
  have c1' : ¬ 20 < ((os[i].A.made.length : Nat) : Int) := by omega
  simp only [c1', gE]
  rw [aE (hr0.idx (j := i) D8 LM rfl hil)]
  simp only [tyr, m1, m3, gE]
  rw [aE (hr0.load (k := i * 40 + 1 + 34) FP rfl hx2)]
  simp only [fgr, builtin, bor, bE, gt_iff_lt, ls, gE]
  by_cases c2 : 20 < os[i].A.bR.length
  ·have c2' : 20 < ((os[i].A.bR.length : Nat) : Int) := by omega
   simp only [fgr, c2', gE]
   exact hr _ _ _ _ _ _ _ _ _ _ _ _ (List.any_eq_true.2 ⟨_, hmem, by simp [pU, c2]⟩)
  have c2' : ¬ 20 < ((os[i].A.bR.length : Nat) : Int) := by omega
  simp only [c2', gE]
  rw [aE (hr0.idx (j := i) D8 LM rfl hil)]
  simp only [tyr, m1, m2, gE]
  rw [aE (hr0.load (k := i * 40 + 1 + 33) pJ rfl hx)]
  simp only [fgr, builtin, lm, gE]
  refine P0 _ _ a mv sv os xs ys i os[i] h n ha hil he hb hm ?_ ?_ os[i].A.made.length 0 _ _ _ _ _ _ _ (by omega) rfl
  ·intro x2 x4 x7 x11 x30 x39 x52 h0
   simp only [fgr, bor, bZ, hwr, gE]
   exact ih (i + 1) _ _ _ _ _ _ _ _ _ _ (by omega) (hov false (by simp [pU, c1, c2, h0]))
  ·intro x0 x3 x4 x7 x9 x10 x11 x30 x37 x38 x39 x52 h0
   simp only [bI]
   exact hr _ _ _ _ _ _ _ _ _ _ _ _ (List.any_eq_true.2 ⟨_, hmem, by simp [pU, h0]⟩)
theorem f57 (a : a9) (os : List OpS) (xs : List a9) (h : Hp) (n : Nat) (ha : zA a os xs) :
  Wp (bH env (aV env) 57 [a]) h n fun v' h' n' => v' = .int .i64 (if oN os then 1 else 0) ∧ h' = h ∧ n' = n := by
 refine aU aN2 aB4 ?_
 have hr0 := ha.rd h
 simp only [Z5, Try.f57, Option.getD_some, List.replicate, fgr, builtin, bor, Nat.reduceSub, gt_iff_lt, hr0.cA D8, gE]
 by_cases c : 30 < os.length
 ·have c' : 30 < ((os.length : Nat) : Int) := by omega
  simp only [fgr, ↓reduceIte, c', oN, c, gE]
 ·have c' : ¬ 30 < ((os.length : Nat) : Int) := by omega
  simp only [fgr, builtin, c', hr0.cA D8, gE]
  refine P1 _ _ a os xs h n ha ?_ ?_ os.length 0 _ _ _ _ _ _ _ _ _ _ (by omega) rfl
  ·intro x2 x3 x4 x7 x11 x30 x37 x38 x39 x52 h0
   simp only [fgr, ↓reduceIte, reduceCtorEq, oN, c, h0, gE]
  ·intro x0 x3 x4 x7 x9 x10 x11 x30 x37 x38 x39 x52 h0
   simp only [bI, nth, ↓reduceIte, Bool.or_true, and_self, oN, h0]
theorem oM {os : List OpS} (h : oN os = false) : os.length ≤ 30 ∧ ∀ o ∈ os, o.A.made.length ≤ 20 ∧ o.A.bR.length ≤ 20 ∧ ∀ v ∈ o.A.made, v.aJ.length ≤ 200 := by
 unfold oN at h
 simp only [Bool.or_eq_false_iff, decide_eq_false_iff_not, List.any_eq_false] at h
 refine ⟨by omega, fun o ho => ?_⟩
 have := h.2 o ho
 unfold pU at this
 simp only [Bool.or_eq_true, decide_eq_true_eq, not_or, List.any_eq_true, not_exists, not_and] at this
 refine ⟨by omega, by omega, fun v hv => ?_⟩
 have := this.2 v hv
 unfold A9 at this
 simp only [decide_eq_true_eq] at this
 omega
theorem f111 (v : a9) (l : List UInt8) (h : Hp) (n : Nat) (hb : Bytes h v l) (hl : l.length ≤ 1000000) (hf : aY h n) : Wp (bH env (aV env) 111 [v]) h n fun v' h' n' => Bytes h' v' l ∧ (∀ j, aP v' = some j → n ≤ j ∧ j < n') ∧ Old h h' n := by
 refine aU aq5 am1 ?_
 simp only [PR, Try.f111, Option.getD_some, List.replicate, fgr, builtin, Nat.reduceSub, gE]
 refine dP (i := ⟨.int .u8, 1, 1, .int .u8 0⟩) (e := 5) (cnt := 0) (xs := []) .nil hb.rds t29 t29 ti5 (uU l) (by decide) (by show 2 * (0 + l.length) * 1 ≤ _; omega) (by omega) hf ?_
 intro v' h' n' hn hf' ho hid hold
 simp only [fgr, gE]
 rw [List.nil_append] at ho
 refine ⟨ho.rds.bytes (by intro e; subst e; cases ho), fun j hj => ?_, fun j hj => hold j hj (fun e => by cases e)⟩
 rcases hid with q | ⟨q, q2⟩
 ·rw [q] at hj; cases hj
 ·rw [q] at hj; injection hj with hj; omega
theorem B7 {A : App} {mv sv x : a9} (hb : A.block.length = 32) : bV (aX A mv sv) 33 [x] = aX A x sv := by
 have e : aX A mv sv = (.int .i64 A.bJ :: A.block.map u8) ++ ([mv] ++ [sv, .int .i64 A.eD, .int .i64 A.left]) := by simp [aX]
 rw [e, lL (mid := [mv]) (vs := [x]) (by simp [hb]) rfl]
 simp [aX]
theorem B6 {A : App} {mv sv x : a9} (hb : A.block.length = 32) : bV (aX A mv sv) 34 [x] = aX A mv x := by
 have e : aX A mv sv = (.int .i64 A.bJ :: A.block.map u8 ++ [mv]) ++ ([sv] ++ [.int .i64 A.eD, .int .i64 A.left]) := by simp [aX]
 rw [e, lL (mid := [sv]) (vs := [x]) (by simp [hb]) rfl]
 simp [aX]
theorem XK (Q : dI) (ks : List Kf) (A : App) (mv sv : a9) (xs : List a9) (hm : FJ mv A.made xs) (hb : A.block.length = 32) (hl : A.made.length ≤ 1000000) (hsl : ∀ v ∈ A.made, v.aJ.length ≤ 1000000) (n : Nat) (et0 : TypeId) (H : Hp) (hr : Row H n (aX A mv sv))
  (hT : ∀ (h : Hp) (m : Nat) (acc : a9) (cells : List a9) (x0 x5 x13 : a9), h (n + 1 + 1) = some (.row (.l (aX A acc .aN)) et0) → Lst h 31 70 acc A.made.length cells → Vs h (fun j => n + 1 + 1 + 1 ≤ j ∧ j < m ∧ aP acc ≠ some j) cells A.made → (∀ j, aP acc = some j → n + 1 + 1 + 1 ≤ j) → (∀ j, j < n + 1 + 1 → h j = H j) → n + 1 + 1 + 1 ≤ m → aY h m →
   cV env 96 none Q ks (.exit 0) (x0 :: .ptr n 0 :: .ptr (n + 1) 0 :: .ptr (n + 1 + 1) 0 :: .int .i64 (A.made.length : Nat) :: x5 :: a9.aA :: a9.aA :: a9.aA :: a9.aA :: a9.aA :: a9.aA :: a9.aA :: x13 :: a9.aA :: a9.aA :: a9.aA :: a9.aA :: a9.aA :: a9.aA :: a9.aA :: a9.aA :: a9.aA :: a9.aA :: a9.aA :: a9.aA :: a9.aA :: a9.aA :: a9.aA :: a9.aA :: a9.aA :: a9.aA :: a9.aA :: a9.aA :: a9.aA :: a9.aA :: a9.aA :: a9.aA :: []) h m) :
  ∀ (k i : Nat) (h : Hp) (m : Nat) (acc : a9) (cells : List a9) (x0 x5 x13 : a9), i + k = A.made.length → h (n + 1 + 1) = some (.row (.l (aX A acc .aN)) et0) → Lst h 31 70 acc i cells → Vs h (fun j => n + 1 + 1 + 1 ≤ j ∧ j < m ∧ aP acc ≠ some j) cells (A.made.take i) → (∀ j, aP acc = some j → n + 1 + 1 + 1 ≤ j) → (∀ j, j < n + 1 + 1 → h j = H j) → n + 1 + 1 + 1 ≤ m → aY h m →
   Run env 96 none Q (.loop G5) ks (x0 :: .ptr n 0 :: .ptr (n + 1) 0 :: .ptr (n + 1 + 1) 0 :: .int .i64 (i : Nat) :: x5 :: a9.aA :: a9.aA :: a9.aA :: a9.aA :: a9.aA :: a9.aA :: a9.aA :: x13 :: a9.aA :: a9.aA :: a9.aA :: a9.aA :: a9.aA :: a9.aA :: a9.aA :: a9.aA :: a9.aA :: a9.aA :: a9.aA :: a9.aA :: a9.aA :: a9.aA :: a9.aA :: a9.aA :: a9.aA :: a9.aA :: a9.aA :: a9.aA :: a9.aA :: a9.aA :: a9.aA :: a9.aA :: []) h m := by
 intro k
 induction k with
 | zero =>
  intro i h m acc cells x0 x5 x13 hk h3 la va ia ho hnm hf
  have : i = A.made.length := by omega
  subst this
  rw [List.take_length] at va
  have hc : ¬ ((A.made.length : Nat) : Int) < ((A.made.length : Nat) : Int) := by omega
  have rn := hr.aM (ho n (by omega))
  rw [bO]
  simp only [G5, bC, Try.f96, Option.getD_some, tyr, aR, List.getD_cons_zero, gE]
  rw [aE (mY rn hb)]
  simp only [fgr, builtin, bor, (hm.rd h).cA u43, hc, gE]
  exact hT h m acc cells _ _ _ h3 la va ia ho hnm hf
 | succ k ih =>
  intro i h m acc cells x0 x5 x13 hk h3 la va ia ho hnm hf
  have hil : i < A.made.length := by omega
  have hc : ((i : Nat) : Int) < ((A.made.length : Nat) : Int) := by omega
  have w1 : IntKind.i64.wrap (((i : Nat) : Int) + 1) = ((i + 1 : Nat) : Int) := by rw [w64 (by omega) (by omega)]; omega
  have rn := hr.aM (ho n (by omega))
  obtain ⟨sw, e, hv⟩ := hm.at_ i hil
  have hsv := hsl _ (List.getElem_mem hil)
  have htk : A.made.take (i + 1) = A.made.take i ++ [A.made[i]] := hU hil
  have hlx : xs.length = A.made.length * 70 := (hm.rd h).length
  have hld : ∀ n', Rd (load env 31 (cS (i * 70) mv)) h n' (rid mv) (.agg (aK A.made[i] sw)) := fun n' => by
   have := (hm.rd h).agg (E := env) (n := n') (k := i * 70) cY rfl (by decide) (by show i * 70 + 70 ≤ _; omega)
   have e' : (xs.drop (i * 70)).take 70 = aK A.made[i] sw := e
   exact e' ▸ this
  generalize A.made[i] = v at *
  rw [bO]
  simp only [G5, bC, Try.f96, Option.getD_some, tyr, aR, List.getD_cons_zero, gE]
  rw [aE (mY rn hb)]
  simp only [tyr, fgr, builtin, bor, aR, (hm.rd h).cA u43, hc, gE]
  rw [aE (mY rn hb)]
  simp only [gE]
  rw [aE ((hm.rd h).idx (j := i) u43 LL rfl hil)]
  simp only [gE]
  rw [aE (hld m)]
  simp only [gE]
  rw [bU cY rfl]
  simp only [cel, gE]
  have kd := (hv.s.bytes h).kind
  refine cK (v := .agg (aK v sw)) cY rfl (aZ hv.ok.h hv.ok.b) (c8 kd.2.1) hf fun H1 r1 p1 f1 => ?_
  replace r1 : Row H1 m (aK v sw) := r1
  simp only [tyr, fgr, aR, gE]
  rw [aE (gS r1 hv.ok)]
  simp only [hkr, gE]
  refine aQ f1 (f111 sw v.aJ H1 (m + 1) (hv.s.bytes H1) hsv f1) fun v2 h2 n2 hn2 f2 ⟨b2, i2, o2⟩ => ?_
  obtain ⟨et, g2⟩ := r1.aM (o2 m (by omega))
  simp only [tyr, aR, gE]
  rw [cR (Row.write (off := 35) (v := v2) g2 uY (by rw [b2.kind.1]; rfl) (by rw [aZ hv.ok.h hv.ok.b]; show 35 + 1 ≤ 70; omega) (by rw [b2.kind.1]; simp [b2.kind.2.1]))]
  rw [b2.kind.1, zZ hv.ok.h]
  obtain ⟨h3', hh3⟩ : ∃ h3', h3' = upd h2 m (some (.row (.l (aK v v2)) et)) := ⟨_, rfl⟩
  rw [← hh3]
  have r3 : Row h3' m (aK v v2) := ⟨et, by rw [hh3, aO]⟩
  have o3 : ∀ j, j ≠ m → h3' j = h2 j := fun j hj => by rw [hh3, aH _ _ hj]
  have f3 : aY h3' n2 := by rw [hh3]; exact f2.upd (by omega)
  clear hh3
  have oA : ∀ j, j < m → h3' j = h j := fun j hj => by rw [o3 j (by omega), o2 j (by omega), p1 j (by omega)]
  have t3 : h3' (n + 1 + 1) = some (.row (.l (aX A acc .aN)) et0) := (oA _ (by omega)).trans h3
  simp only [tyr, fgr, aR, gE]
  rw [aE (mY (A := A) (mv := acc) (sv := .aN) ⟨et0, t3⟩ hb)]
  simp only [gE]
  rw [aE (dO r3 hv.ok)]
  simp only [LB (aZ hv.ok.h hv.ok.b), gE]
  refine gT cY f3 (f := fun id => a9.sl id 0 1 (some 1) 70) fun H4 g4 o4 f4 => ?_
  simp only [builtin, gE]
  have accl : ∀ j, aP acc = some j → j < m := fun j q => la.dL hf q
  have oB : ∀ j, j < m → H4 j = h j := fun j hj => by rw [o4 j (by omega), oA j hj]
  have la4 := la.aM (h' := H4) fun j q => oB j (accl j q)
  refine dP (i := eK.i) (e := 31) la4 (kY (cnt := 1) g4 (by rw [aZ hv.ok.h hv.ok.b]; rfl)) u43 u43 cY (c8 b2.kind.2.1) (by decide) (by show 2 * (i + 1) * 128 ≤ _; omega) (by omega) f4 ?_
  intro acc' h5 n5 hn5 f5 l5 i5 o5
  have i5' : ∀ j, aP acc' = some j → n + 1 + 1 + 1 ≤ j := fun j q => by
   rcases i5 with w | ⟨w, _⟩
   ·rw [w] at q; exact ia j q
   ·rw [w] at q; injection q with q; omega
  have hne : ∀ j, j < n2 + 1 → aP acc ≠ some j → aP acc' ≠ some j := fun j hj hn q => by
   rcases i5 with w | ⟨w, _⟩
   ·rw [w] at q; exact hn q
   ·rw [w] at q; injection q with q; omega
  have t5 : h5 (n + 1 + 1) = some (.row (.l (aX A acc .aN)) et0) := by rw [o5 _ (by omega) (fun q => by have := ia _ q; omega), oB _ (by omega)]; exact h3
  have ka : acc'.cells = [acc'] ∧ bB acc' = true := ⟨l5.rds.kind.1, l5.rds.kind.2.1⟩
  simp only [tyr, aR, gE]
  rw [cR (Row.write (off := 33) (v := acc') t5 pJ (by rw [ka.1]; rfl) (by rw [cD hb]; show 33 + 1 ≤ 37; omega) (by rw [ka.1]; simp [ka.2]))]
  rw [ka.1, B7 hb]
  obtain ⟨h6, hh6⟩ : ∃ h6, h6 = upd h5 (n + 1 + 1) (some (.row (.l (aX A acc' .aN)) et0)) := ⟨_, rfl⟩
  rw [← hh6]
  have g6 : h6 (n + 1 + 1) = some (.row (.l (aX A acc' .aN)) et0) := by rw [hh6, aO]
  have o6 : ∀ j, j ≠ n + 1 + 1 → h6 j = h5 j := fun j hj => by rw [hh6, aH _ _ hj]
  have f6 : aY h6 n5 := by rw [hh6]; exact f5.upd (by omega)
  clear hh6
  have an : ∀ j, m ≤ j → aP acc ≠ some j := fun j hj q => by have := accl j q; omega
  have va6 := va.mono (h' := h6) (D' := fun j => n + 1 + 1 + 1 ≤ j ∧ j < n5 ∧ aP acc' ≠ some j) (fun j q => ⟨q.1, by omega, hne j (by omega) q.2.2⟩) (fun j q => by rw [o6 j (by omega), o5 j (by omega) q.2.2, oB j q.2.1])
  have b6 : Bytes h6 v2 v.aJ := b2.aM fun j q => by
   have := i2 j q
   rw [o6 j (by omega), o5 j (by omega) (an j (by omega)), o4 j (by omega), o3 j (by omega)]
  have va7 := va6.zH b6 hv.ok (fun j q => by have := i2 j q; exact ⟨by omega, by omega, hne j (by omega) (an j (by omega))⟩)
  rw [← htk] at va7
  simp only [fgr, bor, bZ, w1, gE]
  exact ih (i + 1) h6 n5 acc' _ _ _ _ (by omega) g6 (l5.aM fun j q => o6 j (by have := i5' j q; omega)) va7 i5' (fun j hj => by rw [o6 j (by omega), o5 j (by omega) (fun q => by have := ia j q; omega), oB j (by omega), ho j hj]) (by omega) f6
def sE : App := ⟨0, z32, [], [], 0, 0⟩
theorem WZ {a : a9} {ss : List Spd} {xs : List a9} (h : JF a ss xs) : xs.all bB = true := by
 rw [List.all_eq_true]
 intro c hc
 obtain ⟨k, hk, rfl⟩ := List.mem_iff_getElem.1 hc
 have hl : xs.length = ss.length * 65 := (h.rd (fun _ => none)).length
 have hj : k / 65 < ss.length := by omega
 have e := (h.at_ (k / 65) hj).1
 have hp := tP e (i := k % 65) (by omega)
 rw [show k / 65 * 65 + k % 65 = k by omega, List.getElem?_eq_getElem hk] at hp
 exact List.all_eq_true.1 (sO ss[k / 65]) _ (List.mem_of_getElem? hp.symm)
theorem f96 (A : App) (mv sv : a9) (h : Hp) (n : Nat) (ha : tF A mv sv) (hl : A.made.length ≤ 1000000) (hl2 : A.bR.length ≤ 1000000) (hsl : ∀ v ∈ A.made, v.aJ.length ≤ 1000000) (hf : aY h n) :
  Wp (bH env (aV env) 96 [.agg (aX A mv sv)]) h n fun v' h' n' => ∃ mv' sv', v' = .agg (aX A mv' sv') ∧ jT h' n n' A mv' sv' ∧ Old h h' n := by
 obtain ⟨⟨xs, hm⟩, ⟨ys, hss⟩, hb⟩ := ha
 have km := (hm.rd h).kind
 have ks := (hss.rd h).kind
 refine aU aK2 ay4 ?_
 simp only [YB, Try.f96, Option.getD_some, List.replicate, Nat.reduceSub, gE]
 refine cG (v := .agg (aX A mv sv)) mG rfl hf fun H1 r1 o1 f1 => ?_
 replace r1 : Row H1 n (aX A mv sv) := r1
 simp only [gE]
 rw [bU mG rfl]
 obtain ⟨H2, hH2⟩ : ∃ H2, H2 = upd H1 (n + 1) (some (.row (.l (aX sE .aN .aN)) 46)) := ⟨_, rfl⟩
 have g2 : H2 (n + 1) = some (.row (.l (aX sE .aN .aN)) 46) := by rw [hH2, aO]
 have o2 : ∀ j, j ≠ n + 1 → H2 j = H1 j := fun j hj => by rw [hH2, aH _ _ hj]
 have f2 : aY H2 (n + 1 + 1) := by rw [hH2]; exact f1.new
 show Ops _ _ _ _ _ _ _ _ (upd H1 (n + 1) (some (.row (.l (aX sE .aN .aN)) 46))) _
 rw [← hH2]
 clear hH2
 have r2 := r1.aM (o2 n (by omega))
 simp only [fgr, gE]
 rw [aE (mF r2 hb)]
 simp only [gE]
 rw [bU mG rfl]
 simp only [cel, gE]
 refine cK (v := .agg (aX A mv sv)) mG rfl (cD hb) (kG km.2.1 ks.2.1) f2 fun H3 r3 o3 f3 => ?_
 obtain ⟨et, g3⟩ : Row H3 (n + 1 + 1) (aX A mv sv) := r3
 simp only [tyr, fgr, aR, gE]
 rw [cR (Row.write (off := 33) (v := .aN) g3 pJ rfl (by rw [cD hb]; show 33 + 1 ≤ 37; omega) rfl)]
 rw [show bV (aX A mv sv) 33 (a9.aN).cells = aX A .aN sv from B7 hb]
 obtain ⟨H4, hH4⟩ : ∃ H4, H4 = upd H3 (n + 1 + 1) (some (.row (.l (aX A .aN sv)) et)) := ⟨_, rfl⟩
 rw [← hH4]
 have g4 : H4 (n + 1 + 1) = some (.row (.l (aX A .aN sv)) et) := by rw [hH4, aO]
 have o4 : ∀ j, j ≠ n + 1 + 1 → H4 j = H3 j := fun j hj => by rw [hH4, aH _ _ hj]
 have f4 : aY H4 (n + 1 + 1 + 1) := by rw [hH4]; exact f3.upd (by omega)
 clear hH4
 simp only [tyr, fgr, aR, gE]
 rw [cR (Row.write (off := 34) (v := .aN) g4 FP rfl (by rw [cD hb]; show 34 + 1 ≤ 37; omega) rfl)]
 rw [show bV (aX A .aN sv) 34 (a9.aN).cells = aX A .aN .aN from B6 hb]
 obtain ⟨H5, hH5⟩ : ∃ H5, H5 = upd H4 (n + 1 + 1) (some (.row (.l (aX A .aN .aN)) et)) := ⟨_, rfl⟩
 rw [← hH5]
 have g5 : H5 (n + 1 + 1) = some (.row (.l (aX A .aN .aN)) et) := by rw [hH5, aO]
 have o5 : ∀ j, j ≠ n + 1 + 1 → H5 j = H2 j := fun j hj => by rw [hH5, aH _ _ hj, o4 j hj, o3 j hj]
 have f5 : aY H5 (n + 1 + 1 + 1) := by rw [hH5]; exact f4.upd (by omega)
 clear hH5
 have rn5 : Row H5 n (aX A mv sv) := r2.aM (o5 n (by omega))
 simp only [fgr, gE]
 refine XK _ _ A mv sv xs hm hb hl hsl n et H5 rn5 ?_ A.made.length 0 H5 (n + 1 + 1 + 1) .aN [] _ _ _ (by omega) g5 .nil (Vs.nil _ _) (fun j q => by cases q) (fun j _ => rfl) (Nat.le_refl _) f5
 intro h6 m6 acc cells x0 x5 x13 g6 l6 v6 i6 o6 hn6 f6
 have rn6 : Row h6 n (aX A mv sv) := rn5.aM (o6 n (by omega))
 simp only [tyr, aR, gE]
 rw [aE (vP (A := A) (mv := acc) (sv := .aN) ⟨et, g6⟩ hb)]
 simp only [tyr, aR, gE]
 rw [aE (vP rn6 hb)]
 simp only [builtin, gE]
 refine dP (i := BD.i) (e := 48) (cnt := 0) (xs := []) .nil (hss.rd h6) u44 u44 zE (WZ hss) (by decide) (by show 2 * (0 + A.bR.length) * 68 ≤ _; omega) (by omega) f6 ?_
 intro s7 h7 n7 hn7 f7 l7 i7 o7
 have i7' : ∀ j, aP s7 = some j → m6 ≤ j := fun j q => by
  rcases i7 with w | ⟨w, _⟩
  ·rw [w] at q; cases q
  ·rw [w] at q; injection q with q; omega
 have o7' : ∀ j, j < m6 → h7 j = h6 j := fun j hj => o7 j hj (fun q => by cases q)
 have g7 : h7 (n + 1 + 1) = some (.row (.l (aX A acc .aN)) et) := (o7' _ (by omega)).trans g6
 have k7 : s7.cells = [s7] ∧ bB s7 = true := ⟨l7.rds.kind.1, l7.rds.kind.2.1⟩
 have ka : bB acc = true := l6.rds.kind.2.1
 simp only [tyr, aR, gE]
 rw [cR (Row.write (off := 34) (v := s7) g7 FP (by rw [k7.1]; rfl) (by rw [cD hb]; show 34 + 1 ≤ 37; omega) (by rw [k7.1]; simp [k7.2]))]
 rw [k7.1, B6 hb]
 obtain ⟨h8, hh8⟩ : ∃ h8, h8 = upd h7 (n + 1 + 1) (some (.row (.l (aX A acc s7)) et)) := ⟨_, rfl⟩
 rw [← hh8]
 have g8 : h8 (n + 1 + 1) = some (.row (.l (aX A acc s7)) et) := by rw [hh8, aO]
 have o8 : ∀ j, j ≠ n + 1 + 1 → h8 j = h7 j := fun j hj => by rw [hh8, aH _ _ hj]
 clear hh8
 simp only [fgr, gE]
 rw [aE (mF (A := A) (mv := acc) (sv := s7) ⟨et, g8⟩ hb)]
 simp only [gE]
 have b8 : h8 (n + 1) = some (.row (.l (aX sE .aN .aN)) 46) := by rw [o8 _ (by omega), o7' _ (by omega), o6 _ (by omega), o5 _ (by omega)]; exact g2
 rw [cR (Row.write (off := 0) (v := .agg (aX A acc s7)) b8 mG (cD hb) (by show 0 + 37 ≤ 37; omega) (kG ka k7.2))]
 rw [dC (by show (aX _ _ _).length = _; rw [cD hb]; rfl)]
 simp only [bI, fgr, bP, nth, aF, cel, true_and]
 refine dX (Row.eF (cs := aX A acc s7) ⟨46, aO _ _ _⟩ mG rfl (cD hb)) (aT.2 ?_)
 have oZ : ∀ (b : Option Blk), ∀ j, n + 1 + 1 + 1 ≤ j → upd h8 (n + 1) b j = h7 j := fun b j hj => by rw [aH _ _ (by omega), o8 j (by omega)]
 refine ⟨acc, s7, rfl, ⟨⟨cells, l6.aM fun j q => ?_, v6.mono (fun j q => ⟨by omega, by omega, q.2.2⟩) (fun j q => ?_), fun j q => ?_⟩, ⟨ys, ?_, fun j hj => ?_, fun j q => ?_⟩, hb, hl, hl2⟩, fun j hj => ?_⟩
 ·have := l6.dL f6 q
  rw [oZ _ j (i6 j q), o7' j this]
 ·rw [oZ _ j q.1, o7' j q.2.1]
 ·have := l6.dL f6 q
  exact ⟨by have := i6 j q; omega, by omega⟩
 ·rw [Nat.zero_add, List.nil_append] at l7
  exact l7.aM fun j q => oZ _ j (by have := i7' j q; omega)
 ·exact ⟨(hss.at_ j hj).1, (hss.at_ j hj).2.1⟩
 ·have := l7.dL f7 q
  exact ⟨by have := i7' j q; omega, this⟩
 ·rw [aH _ _ (by omega), o8 j (by omega), o7' j (by omega), o6 j (by omega), o5 j (by omega), o2 j (by omega), o1 j (by omega)]
def atH (z : Int) (v : Ver) : Ver := { v with made := z }
theorem FM {w : Ver} {sv : a9} (h : w.aI.length = 32) (z : Int) : bV (aK w sv) 33 [.int .i64 z] = aK (atH z w) sv := by
 have e : aK w sv = aS w.aI w.pn ++ ([.int .i64 w.made] ++ ([.int .i64 w.value, sv, .bool w.cX, .int .i64 w.bX] ++ w.by_.map u8)) := by simp [aK, nB]
 rw [e, lL (mid := [.int .i64 w.made]) (vs := [.int .i64 z]) (bM h) rfl]
 simp [aK, nB, atH]
theorem xH {xs : List a9} {a : Nat} {y : a9} (h : a < xs.length) : bV xs a [y] = xs.set a y := by
 unfold bV
 rw [List.set_eq_take_append_cons_drop, if_pos h]
 simp
theorem VL.made {h : Hp} {n a b : Nat} {v : a9} {vs : List Ver} (l : VL h a b v vs) {i : Nat} (hi : i < vs.length) (z : Int) :
  ∃ rs ws h2, Wr (uJ env 3 (cS (i * 70 + 33) v) (.int .i64 z)) h n rs ws undef h2 ∧ VL h2 a b v (vs.modify i (atH z)) ∧ ∀ j, aP v ≠ some j → h2 j = h j := by
 obtain ⟨cells, c1, c2, c3⟩ := l
 obtain ⟨id, cap, cs, rfl, hh, hl, hc, hx⟩ := c1.inv (by omega)
 have hw := Row.write (E := env) (n := n) (off := 0 + (i * 70 + 33)) (v := .int .i64 z) hh ti3 rfl (by show 0 + (i * 70 + 33) + 1 ≤ cs.length; omega) rfl
 have es : bV cs (0 + (i * 70 + 33)) (a9.int .i64 z).cells = cs.set (i * 70 + 33) (.int .i64 z) := by
  rw [Nat.zero_add]
  exact xH (by omega)
 rw [es] at hw
 have hcl : cells.length = vs.length * 70 := c1.rds.length
 refine ⟨_, _, _, hw, ⟨cells.set (i * 70 + 33) (.int .i64 z), ?_, ⟨by rw [List.length_set, List.length_modify]; exact hcl, fun j hj => ?_⟩, c3⟩, fun j q => aH _ _ (fun e => q (by rw [e]; rfl))⟩
 ·rw [List.length_modify]
  refine .sl id _ cap (cs.set (i * 70 + 33) (.int .i64 z)) _ (aO _ _ _) (by rw [List.length_set]; exact hl) (fun k q => by rw [List.length_set]; exact hc k q) ?_
  rw [List.take_set, hx]
 ·rw [List.length_modify] at hj
  obtain ⟨sv, e, bb, o, d⟩ := c2.at_ j hj
  rw [List.getElem_modify]
  have bb' : Bytes (upd h id (some (.row (.l (cs.set (i * 70 + 33) (.int .i64 z))) 31))) sv vs[j].aJ := bb.aM fun k q => aH _ _ (fun e => (d k q).2.2 (by rw [e]; rfl))
  by_cases c : i = j
  ·subst c
   rw [if_pos rfl]
   refine ⟨sv, ?_, bb', ⟨o.h, o.b⟩, d⟩
   rw [List.drop_set, if_neg (by omega), List.take_set, e, show i * 70 + 33 - i * 70 = 33 by omega, ← xH (by rw [aZ o.h o.b]; omega)]
   exact FM o.h z
  ·rw [if_neg c]
   refine ⟨sv, ?_, bb', o, d⟩
   rw [← e]
   refine List.ext_getElem (by simp) fun k k1 k2 => ?_
   rw [List.getElem_take, List.getElem_take, List.getElem_drop, List.getElem_drop, List.getElem_set, if_neg]
   rw [List.length_take] at k1
   omega
theorem G2 (vs : List Ver) (f : Ver → Ver) {i : Nat} (hi : i < vs.length) : ((vs.take i).map f ++ vs.drop i).modify i f = (vs.take (i + 1)).map f ++ vs.drop (i + 1) := by
 refine List.ext_getElem? fun k => ?_
 rw [List.getElem?_modify]
 have e1 : ((vs.take i).map f).length = i := by rw [List.length_map, List.length_take]; omega
 have e2 : ((vs.take (i + 1)).map f).length = i + 1 := by rw [List.length_map, List.length_take]; omega
 rcases Nat.lt_trichotomy k i with c | c | c
 ·rw [List.getElem?_append_left (by omega), List.getElem?_append_left (by omega), List.getElem?_map, List.getElem?_map, List.getElem?_take_of_lt c, List.getElem?_take_of_lt (by omega)]
  simp only [if_neg (show ¬ i = k by omega)]
  cases vs[k]? <;> rfl
 ·subst c
  rw [List.getElem?_append_right (by omega), List.getElem?_append_left (by omega), e1, Nat.sub_self, List.getElem?_drop, List.getElem?_map, List.getElem?_take_of_lt (by omega)]
  simp only [Nat.add_zero]
  cases vs[k]? <;> simp
 ·rw [List.getElem?_append_right (by omega), List.getElem?_append_right (by omega), e1, e2, List.getElem?_drop, List.getElem?_drop, show i + (k - i) = k by omega, show i + 1 + (k - (i + 1)) = k by omega]
  simp only [if_neg (show ¬ i = k by omega)]
  cases vs[k]? <;> rfl
theorem pS {o : OpS} {mv sv : a9} (hb : o.A.block.length = 32) : (cT o mv sv).length = 40 := by simp [cT, cD hb]
theorem NT {h : Hp} {n id : Nat} {o : OpS} {mv sv : a9} (hr : Row h id (cT o mv sv)) (hb : o.A.block.length = 32) : Rd (load env 46 (.ptr id 1)) h n [id] (.agg (aX o.A mv sv)) := by
 have := hr.agg (E := env) (n := n) (off := 1) mG rfl (by rw [pS hb]; decide)
 have e : ((cT o mv sv).drop 1).take 37 = aX o.A mv sv := by unfold cT; rw [List.drop_succ_cons, List.drop_zero, List.take_append_of_le_length (by rw [cD hb]; omega), List.take_of_length_le (by rw [cD hb]; omega)]
 exact e ▸ this
theorem ai7 {o : OpS} {mv sv : a9} (hb : o.A.block.length = 32) (k : Nat) : (cT o mv sv)[38 + k]? = [a9.bool o.next, .int .i64 o.num][k]? := by
 unfold cT
 rw [show 38 + k = 37 + k + 1 by omega, List.getElem?_cons_succ, List.getElem?_append_right (by rw [cD hb]; omega), cD hb]
 congr 1; omega
theorem K0 {h : Hp} {n id : Nat} {o : OpS} {mv sv : a9} (hr : Row h id (cT o mv sv)) (hb : o.A.block.length = 32) : Rd (load env 4 (.ptr id 38)) h n [id] (.bool o.next) := hr.one (ai7 hb 0) ti4 rfl
theorem NS {h : Hp} {n id : Nat} {o : OpS} {mv sv : a9} (hr : Row h id (cT o mv sv)) (hb : o.A.block.length = 32) : Rd (load env 3 (.ptr id 39)) h n [id] (.int .i64 o.num) := hr.one (ai7 hb 1) ti3 rfl
theorem K1 {h : Hp} {n id : Nat} {o : OpS} {mv sv : a9} (hr : Row h id (cT o mv sv)) : Rd (load env 3 (.ptr id 0)) h n [id] (.int .i64 o.kind) := hr.one rfl ti3 rfl
theorem NU {h : Hp} {n id : Nat} {o : OpS} {mv sv : a9} (hr : Row h id (cT o mv sv)) (hb : o.A.block.length = 32) : Rd (load env 105 (.ptr id 0)) h n [id] (.agg (cT o mv sv)) := hr.eF A1 rfl (pS hb)
theorem VL.aR {h : Hp} {a b : Nat} {v : a9} {vs : List Ver} (l : VL h a b v vs) {i : Nat} (hi : i < vs.length) (k m : Nat) : Go.Am.aR m (cS k v) = M.pure (cS (k + m) v) := by
 obtain ⟨cells, c1, c2, c3⟩ := l
 exact iQ c1.rds (by omega) k m
theorem VL.wide {h : Hp} {a b c d : Nat} {v : a9} {vs : List Ver} (l : VL h a b v vs) (h1 : c ≤ a) (h2 : b ≤ d) : VL h c d v vs := by
 obtain ⟨cells, c1, c2, c3⟩ := l
 exact ⟨cells, c1, c2.mono (fun j q => ⟨by omega, by omega, q.2.2⟩) (fun j q => rfl), fun j q => by have := c3 j q; omega⟩
theorem SL.wide {h : Hp} {a b c d : Nat} {v : a9} {ss : List Spd} (l : SL h a b v ss) (h1 : c ≤ a) (h2 : b ≤ d) : SL h c d v ss := by
 obtain ⟨cells, c1, c2, c3⟩ := l
 exact ⟨cells, c1, c2, fun j q => by have := c3 j q; omega⟩
theorem LQ {h : Hp} {a b c d : Nat} {v w : a9} {vs : List Ver} {ss : List Spd} (l : VL h a b v vs) (k : SL h c d w ss) {j : Nat} (h1 : aP w = some j) : aP v ≠ some j := fun h2 => by
 obtain ⟨cells, c1, c2, c3⟩ := l
 obtain ⟨cells2, d1, d2, d3⟩ := k
 clear c2 d2
 generalize vs.length = m at *
 generalize ss.length = m2 at *
 cases c1 with
 | nil => cases h2
 | sl id cnt cap cells xs hh hl hcc hx =>
  cases d1 with
  | nil => cases h1
  | sl id2 cnt2 cap2 cells2 xs2 hh2 hl2 hcc2 hx2 =>
   injection h1 with h1
   injection h2 with h2
   subst h1
   subst h2
   rw [hh] at hh2
   injection hh2 with q
   injection q with q1 q2
   exact absurd q2 (by decide)
def kT (o : OpS) (tip : Int) : App := if o.next then { o.A with bJ := IntKind.i64.wrap (tip + 1), made := o.A.made.map (atH (IntKind.i64.wrap (tip + 1))) } else o.A
theorem XP (Q : dI) (ks : List Kf) (A : App) (tip : Int) (mv sv : a9) (a b c4 c5 n0 : Nat) (z : Int) (hz : IntKind.i64.wrap (tip + 1) = z) (hb : A.block.length = 32) (hl : A.made.length ≤ 1000000) (hb5 : b ≤ c5) (hbn : b ≤ n0) (h0 : Hp) (r5 : Row h0 c5 (aX A mv sv)) (x2 : a9)
  (hT : ∀ (h : Hp) (n : Nat) (x0 x6 x19 : a9), VL h a b mv (A.made.map (atH z)) → (∀ j, aP mv ≠ some j → h j = h0 j) → n0 ≤ n → aY h n →
   cV env 59 none Q ks (.exit 0) (x0 :: .int .i64 tip :: x2 :: a9.aA :: .ptr c4 0 :: .ptr c5 0 :: x6 :: a9.aA :: a9.aA :: a9.aA :: a9.aA :: .bool true :: a9.aA :: a9.aA :: a9.aA :: a9.aA :: a9.aA :: .int .i64 (A.made.length : Nat) :: .int .i64 (A.made.length : Nat) :: x19 :: a9.aA :: a9.aA :: a9.aA :: a9.aA :: a9.aA :: a9.aA :: a9.aA :: a9.aA :: a9.aA :: a9.aA :: []) h n) :
  ∀ (m i : Nat) (h : Hp) (n : Nat) (x0 x6 x19 : a9), i + m = A.made.length → VL h a b mv ((A.made.take i).map (atH z) ++ A.made.drop i) → (∀ j, aP mv ≠ some j → h j = h0 j) → n0 ≤ n → aY h n →
   Run env 59 none Q (.loop GB) ks (x0 :: .int .i64 tip :: x2 :: a9.aA :: .ptr c4 0 :: .ptr c5 0 :: x6 :: a9.aA :: a9.aA :: a9.aA :: a9.aA :: .bool true :: a9.aA :: a9.aA :: a9.aA :: a9.aA :: a9.aA :: .int .i64 (A.made.length : Nat) :: .int .i64 (i : Nat) :: x19 :: a9.aA :: a9.aA :: a9.aA :: a9.aA :: a9.aA :: a9.aA :: a9.aA :: a9.aA :: a9.aA :: a9.aA :: []) h n := by
 intro m
 induction m with
 | zero =>
  intro i h n x0 x6 x19 hm hv hk hn hf
  have : i = A.made.length := by omega
  subst this
  rw [bO]
  have hcc : ¬ (((A.made.length : Nat) : Int) < ((A.made.length : Nat) : Int)) := by omega
  simp only [GB, bC, Try.f59, Option.getD_some, fgr, bor, List.getD_cons_zero, hcc, gE]
  rw [List.take_length, List.drop_length, List.append_nil] at hv
  exact hT h n _ _ _ hv hk hn hf
 | succ m ih =>
  intro i h n x0 x6 x19 hm hv hk hn hf
  have hil : i < A.made.length := by omega
  have hcc : (((i : Nat) : Int) < ((A.made.length : Nat) : Int)) := by omega
  have w1 : IntKind.i64.wrap (((i : Nat) : Int) + 1) = ((i + 1 : Nat) : Int) := by rw [w64 (by omega) (by omega)]; omega
  have hvl : i < ((A.made.take i).map (atH z) ++ A.made.drop i).length := by simp; omega
  have hid : ∀ j, aP mv = some j → j < b := fun j q => by
   obtain ⟨cells, c1, c2, c3⟩ := hv
   exact (c3 j q).2
  have r : Row h c5 (aX A mv sv) := r5.aM (hk c5 (fun q => by have := hid _ q; omega))
  have m1 := hv.aR hvl (i * 70) 33
  obtain ⟨rs, ws, h2, w, v2, o2⟩ := hv.made (n := n) hvl z
  rw [G2 _ _ hil] at v2
  have f2 : aY h2 n := fun j hj => by
   rw [o2 j]
   ·exact hf j hj
   ·intro q
    have := hid _ q
    omega
  rw [bO]
  simp only [GB, bC, Try.f59, Option.getD_some, tyr, fgr, bor, List.getD_cons_zero, hcc, gE]
  simp only [aR, aR, gE]
  rw [aE (mY r hb)]
  simp only [bor, bZ, hz, gE]
  rw [aE (hv.idx hvl)]
  simp only [tyr, m1, gE]
  rw [cR w]
  simp only [fgr, bor, bZ, w1, gE]
  exact ih (i + 1) h2 n _ _ _ (by omega) v2 (fun j q => by rw [o2 j q, hk j q]) hn f2
theorem f59 (o : OpS) (tip : Int) (mv sv : a9) (h : Hp) (n : Nat) (ha : tF o.A mv sv) (hl : o.A.made.length ≤ 1000000) (hl2 : o.A.bR.length ≤ 1000000) (hsl : ∀ v ∈ o.A.made, v.aJ.length ≤ 1000000) (hf : aY h n) :
  Wp (bH env (aV env) 59 [.agg (cT o mv sv), .int .i64 tip]) h n fun v' h' n' => ∃ mv' sv', v' = .agg (aX (kT o tip) mv' sv') ∧ jT h' n n' (kT o tip) mv' sv' ∧ Old h h' n := by
 have hb := ha.b
 refine aU aN0 aB2 ?_
 simp only [Z3, Try.f59, Option.getD_some, List.replicate, Nat.reduceAdd, Nat.reduceSub, gE]
 refine cG (v := .agg (cT o mv sv)) A1 rfl hf fun H1 r1 o1 f1 => ?_
 replace r1 : Row H1 n (cT o mv sv) := r1
 simp only [gE]
 rw [bU mG rfl]
 obtain ⟨H2, hH2⟩ : ∃ H2, H2 = upd H1 (n + 1) (some (.row (.l (aX sE .aN .aN)) 46)) := ⟨_, rfl⟩
 have g2 : H2 (n + 1) = some (.row (.l (aX sE .aN .aN)) 46) := by rw [hH2, aO]
 have o2 : ∀ j, j ≠ n + 1 → H2 j = H1 j := fun j hj => by rw [hH2, aH _ _ hj]
 have f2 : aY H2 (n + 1 + 1) := by rw [hH2]; exact f1.new
 show Ops _ _ _ _ _ _ _ _ (upd H1 (n + 1) (some (.row (.l (aX sE .aN .aN)) 46))) _
 rw [← hH2]
 clear hH2
 have r2 := r1.aM (o2 n (by omega))
 simp only [tyr, fgr, aR, gE]
 rw [aE (NT r2 hb)]
 simp only [hkr, gE]
 refine aQ f2 (f96 o.A mv sv H2 _ ha hl hl2 hsl f2) fun v3 h3 n3 hn3 f3 ⟨mv', sv', e3, a3, k3⟩ => ?_
 subst e3
 have oo3 : ∀ j, j < n → h3 j = h j := fun j hj => by rw [k3 j (by omega), o2 j (by omega), o1 j (by omega)]
 have r3 : Row h3 n (cT o mv sv) := r2.aM (k3 n (by omega))
 have g3 : h3 (n + 1) = some (.row (.l (aX sE .aN .aN)) 46) := (k3 _ (by omega)).trans g2
 have km := a3.m.kind
 have ks := a3.s.kind
 simp only [gE]
 rw [bU mG rfl]
 simp only [cel, gE]
 refine cK (v := .agg (aX o.A mv' sv')) mG rfl (cD hb) (kG km.2.1 ks.2.1) f3 fun H4 r4 p4 f4 => ?_
 replace r4 : Row H4 n3 (aX o.A mv' sv') := r4
 have o4 : ∀ j, j < n3 → H4 j = h3 j := fun j hj => p4 j (by omega)
 have rn4 := r3.aM (o4 n (by omega))
 simp only [tyr, fgr, aR, gE]
 rw [aE (K0 rn4 hb)]
 have oo4 : ∀ j, j < n → H4 j = h j := fun j hj => by rw [o4 j (by omega), oo3 j hj]
 have g4 : H4 (n + 1) = some (.row (.l (aX sE .aN .aN)) 46) := (o4 _ (by omega)).trans g3
 have a4 : jT H4 (n + 1 + 1) n3 o.A mv' sv' := a3.aM fun j q1 q2 => o4 j q2
 cases hnx : o.next with
 | false =>
  have ed : kT o tip = o.A := by unfold kT; rw [hnx]; rfl
  rw [ed]
  simp only [fgr, gE]
  rw [aE (mF r4 hb)]
  simp only [gE]
  rw [cR (Row.write (off := 0) (v := .agg (aX o.A mv' sv')) g4 mG (cD hb) (by show 0 + 37 ≤ 37; omega) (kG km.2.1 ks.2.1))]
  rw [dC (by show (aX _ _ _).length = _; rw [cD hb]; rfl)]
  simp only [bI, fgr, bP, nth, aF, cel, true_and]
  refine dX (Row.eF (cs := aX o.A mv' sv') ⟨46, aO _ _ _⟩ mG rfl (cD hb)) (aT.2 ?_)
  have a5 := a4.aM (h' := upd H4 (n + 1) (some (.row (.l (aX o.A mv' sv')) 46))) fun j q1 q2 => aH _ _ (by omega)
  exact ⟨mv', sv', rfl, ⟨VL.wide a5.m (by omega) (by omega), SL.wide a5.s (by omega) (by omega), a5.b, a5.ml, a5.sl⟩, fun j hj => by rw [aH _ _ (by omega), oo4 j hj]⟩
 | true =>
  have ed : kT o tip = { o.A with bJ := IntKind.i64.wrap (tip + 1), made := o.A.made.map (atH (IntKind.i64.wrap (tip + 1))) } := by unfold kT; rw [hnx]; rfl
  rw [ed]
  generalize hz : IntKind.i64.wrap (tip + 1) = z
  obtain ⟨et, g5⟩ := r4
  simp only [tyr, fgr, bor, bZ, aR, hz, gE]
  rw [cR (Row.write (off := 0) (v := .int .i64 z) g5 ti3 rfl (by rw [cD hb]; show 0 + 1 ≤ 37; omega) rfl)]
  have es : bV (aX o.A mv' sv') 0 (a9.int .i64 z).cells = aX { o.A with bJ := z } mv' sv' := rfl
  rw [es]
  obtain ⟨H5, hH5⟩ : ∃ H5, H5 = upd H4 n3 (some (.row (.l (aX { o.A with bJ := z } mv' sv')) et)) := ⟨_, rfl⟩
  have r5 : Row H5 n3 (aX { o.A with bJ := z } mv' sv') := ⟨et, by rw [hH5, aO]⟩
  have o5 : ∀ j, j ≠ n3 → H5 j = H4 j := fun j hj => by rw [hH5, aH _ _ hj]
  have f5 : aY H5 (n3 + 1) := by rw [hH5]; exact f4.upd (by omega)
  rw [← hH5]
  clear hH5
  have a5 := a4.aM (h' := H5) fun j q1 q2 => o5 j (by omega)
  simp only [tyr, fgr, aR, gE]
  rw [aE (mY r5 hb)]
  simp only [fgr, builtin, a5.m.len, gE]
  refine XP _ _ { o.A with bJ := z } tip mv' sv' (n + 1 + 1) n3 (n + 1) n3 (n3 + 1) z hz hb hl (Nat.le_refl _) (by omega) H5 r5 (.ptr n 0) ?_ o.A.made.length 0 H5 (n3 + 1) _ _ _ (Nat.zero_add _) a5.m (fun j _ => rfl) (Nat.le_refl _) f5
  intro h6 n6 x0 x6 x19 v6 k6 hn6 f6
  have hid : ∀ j, aP mv' = some j → n + 1 + 1 ≤ j ∧ j < n3 := fun j q => by
   obtain ⟨cells, c1, c2, c3⟩ := v6
   exact c3 j q
  have r6 : Row h6 n3 (aX { o.A with bJ := z } mv' sv') := r5.aM (k6 n3 fun q => by have := hid _ q; omega)
  have g6 : h6 (n + 1) = some (.row (.l (aX sE .aN .aN)) 46) := by rw [k6 _ (fun q => by have := hid _ q; omega), o5 _ (by omega)]; exact g4
  simp only [gE]
  rw [aE (mF r6 hb)]
  simp only [gE]
  rw [cR (Row.write (off := 0) (v := .agg (aX { o.A with bJ := z } mv' sv')) g6 mG (cD hb) (by show 0 + 37 ≤ 37; omega) (kG km.2.1 ks.2.1))]
  rw [dC (by show (aX _ _ _).length = _; rw [cD (show ({ o.A with bJ := z } : App).block.length = 32 from hb)]; rfl)]
  simp only [bI, fgr, bP, nth, aF, cel, true_and]
  refine dX (Row.eF (cs := aX { o.A with bJ := z } mv' sv') ⟨46, aO _ _ _⟩ mG rfl (cD hb)) (aT.2 ?_)
  have s6 : SL h6 (n + 1 + 1) n3 sv' o.A.bR := by
   obtain ⟨cells, c1, c2, c3⟩ := a5.s
   exact ⟨cells, c1.aM fun j q => k6 j (LQ a5.m a5.s q), c2, c3⟩
  have oZ : ∀ j, j ≠ n + 1 → upd h6 (n + 1) (some (.row (.l (aX { o.A with bJ := z } mv' sv')) 46)) j = h6 j := fun j hj => aH _ _ hj
  refine ⟨mv', sv', rfl, ⟨VL.wide (v6.aM fun j q1 q2 => oZ j (by omega)) (by omega) (by omega), SL.wide (s6.aM fun j q1 q2 => oZ j (by omega)) (by omega) (by omega), hb, by show (o.A.made.map _).length ≤ _; rw [List.length_map]; exact hl, hl2⟩, fun j hj => ?_⟩
  rw [oZ j (by omega), k6 j (fun q => by have := hid _ q; omega), o5 j (by omega), oo4 j hj]
theorem JZ {L : List Ver} {v : Ver} (r : cQ false L) (h : uF v L = false) : cQ false (nG L v) := by
 refine vE r (oE r v) fun w hw e => ?_
 unfold uF at h
 rw [Bool.or_eq_false_iff, List.any_eq_false] at h
 exact h.2 w hw (decide_eq_true e)
theorem UB {L : List Ver} {v : Ver} {z : Int} (h : z < v.made) : fZ z (nG L v) = fZ z L := by
 unfold fZ nG fK
 rw [List.filterMap_append, List.filterMap_cons]
 have e : mA z v = none := by unfold mA; rw [if_pos h]
 rw [e]
 simp only
 rw [← List.filterMap_append, List.take_append_drop]
theorem UA {L : List Ver} {w v : Ver} {z : Int} (r : cQ false L) (hw : w ∈ L) (h : mA z v = mA z w) : fZ z (sN L w v) = fZ z L := by
 obtain ⟨P, S, rfl⟩ := List.append_of_mem hw
 rw [BK r]
 unfold fZ
 rw [List.filterMap_append, List.filterMap_cons, List.filterMap_append, List.filterMap_cons, h]
theorem JP {L : List Ver} {w : Ver} (r : cQ false L) (hw : w ∈ L) (s : Int) (b : List UInt8) : cQ false (sN L w (fY w s b)) := by
 obtain ⟨P, S, rfl⟩ := List.append_of_mem hw
 rw [BK r]
 unfold cQ at r ⊢
 rw [List.pairwise_append, List.pairwise_cons] at r ⊢
 exact ⟨r.1, ⟨fun a ha => r.2.1.1 a ha, r.2.1.2⟩, fun a ha c hc => by
  rcases List.mem_cons.1 hc with rfl | q
  ·exact r.2.2 a ha w (List.mem_cons_self ..)
  ·exact r.2.2 a ha c (List.mem_cons_of_mem _ q)⟩
theorem uZ {L : List Ver} {w v u : Ver} (r : cQ false L) (hw : w ∈ L) (h : u ∈ sN L w v) : u = v ∨ (u ∈ L ∧ u ≠ w) := by
 rw [N1 r hw] at h
 obtain ⟨x, hx, e⟩ := List.mem_map.1 h
 by_cases c : eR x w = 0
 ·rw [if_pos c] at e
  exact .inl e.symm
 ·rw [if_neg c] at e
  subst e
  exact .inr ⟨hx, fun q => c (by rw [q]; exact pV.refl w)⟩
structure UY (t : Int) (v : Ver) : Prop where
 m0 : 0 ≤ v.made
 m : v.made ≤ t
 s : (v.bX = 0 ∧ v.by_ = z32) ∨ (0 < v.bX ∧ v.bX ≤ t ∧ v.made ≤ v.bX)
 v0 : 0 ≤ v.value
 v1 : v.value ≤ 2100000000000000
theorem UY.up {t u : Int} {v : Ver} (f : UY t v) (h : t ≤ u) : UY u v := ⟨f.m0, by have := f.m; omega, by rcases f.s with q | q; exact .inl q; exact .inr ⟨q.1, by omega, q.2.2⟩, f.v0, f.v1⟩
structure Inv (L : List Ver) (t : Int) : Prop where
 r : cQ false L
 f : ∀ v ∈ L, UY t v
 o : ∀ a ∈ L, ∀ b ∈ L, a.aI = b.aI → a.pn = b.pn → a.made < b.made → 0 < a.bX ∧ a.bX ≤ b.made
theorem Inv.none : Inv [] (-1) := ⟨List.Pairwise.nil, (fun v hv => nomatch hv), (fun v hv => nomatch hv)⟩
structure Mid (L0 : List Ver) (t : Int) (L : List Ver) : Prop where
 r : cQ false L
 e : ∀ v ∈ L, v ∈ L0 ∨ (v.made = t + 1 ∧ v.bX = 0 ∧ v.by_ = z32 ∧ 0 ≤ v.value ∧ v.value ≤ 2100000000000000 ∧ atV L0 v.aI v.pn t = .none)
theorem UQ {L : List Ver} {v a : Ver} {z : Int} (h : atV L v.aI v.pn z = none) (ha : a ∈ L) (h1 : a.aI = v.aI) (h2 : a.pn = v.pn) : dW a z = false := by
 cases c : dW a z with
 | false => rfl
 | true =>
  have := UP ha c
  rw [h1, h2, h] at this
  cases this
theorem Mid.inv {L0 L : List Ver} {t : Int} (m : Mid L0 t L) (i : Inv L0 t) (ht : -1 ≤ t) : Inv L (t + 1) := by
 refine ⟨m.r, fun v hv => ?_, fun a ha b hb h1 h2 h3 => ?_⟩
 ·rcases m.e v hv with q | ⟨q1, q2, q3, q4, q5, q6⟩
  ·exact (i.f v q).up (by omega)
  ·exact ⟨by omega, by omega, .inl ⟨q2, q3⟩, q4, q5⟩
 ·rcases m.e b hb with q | ⟨q1, q2, q3, q4, q5, q6⟩
  ·rcases m.e a ha with p | ⟨p1, p2⟩
   ·exact i.o a p b q h1 h2 h3
   ·have := (i.f b q).m
    omega
  ·rcases m.e a ha with p | ⟨p1, p2⟩
   ·have e := UQ q6 p h1 h2
    have f := i.f a p
    have := f.m
    unfold dW at e
    rw [Bool.and_eq_false_iff, Bool.or_eq_false_iff, decide_eq_false_iff_not, decide_eq_false_iff_not, decide_eq_false_iff_not] at e
    rcases f.s with s | s <;> omega
   ·omega
theorem DO {L0 : List Ver} {t : Int} : ∀ (vs L : List Ver) (s : Int) (p : List Ver × Int), (∀ v ∈ vs, oP (t + 1) v = true) → Mid L0 t L → nF L0 t vs L s = some p → Mid L0 t p.1 ∧ ∀ z, z ≤ t → fZ z p.1 = fZ z L
 | [], L, s, p, hv, m, h => by
  unfold nF at h
  injection h with h
  subst h
  exact ⟨m, fun z _ => rfl⟩
 | v :: vs, L, s, p, hv, m, h => by
  unfold nF at h
  by_cases c : ((atV L0 v.aI v.pn t).isSome || uF v L) = true
  ·rw [if_pos c] at h; cases h
  ·rw [if_neg c] at h
   rw [Bool.not_eq_true, Bool.or_eq_false_iff] at c
   have hf := hv v (List.mem_cons_self ..)
   unfold oP lV at hf
   simp only [Bool.and_eq_true, decide_eq_true_eq] at hf
   obtain ⟨⟨⟨⟨f1, f2⟩, f3⟩, f4⟩, f5⟩ := hf
   have hn : atV L0 v.aI v.pn t = none := by
    cases e : atV L0 v.aI v.pn t with
    | none => rfl
    | some x => rw [e] at c; cases c.1
   obtain ⟨a, b⟩ := DO vs (nG L v) _ p (fun w hw => hv w (List.mem_cons_of_mem _ hw)) ⟨JZ m.r c.2, fun w hw => by
    rcases DP.1 hw with rfl | q
    ·exact .inr ⟨f1, f2, f3, f4.1, f4.2, hn⟩
    ·exact m.e w q⟩ h
   exact ⟨a, fun z hz => by rw [b z hz, UB (by omega)]⟩
theorem ES {t : Int} (ht : 0 ≤ t) : ∀ (ps : List Spd) (L : List Ver) (s : Int) (p : List Ver × Int), Inv L t → nU t ps L s = some p → Inv p.1 t ∧ ∀ z, z < t → fZ z p.1 = fZ z L
 | [], L, s, p, i, h => by
  unfold nU at h
  injection h with h
  subst h
  exact ⟨i, fun z _ => rfl⟩
 | q :: ps, L, s, p, i, h => by
  unfold nU at h
  cases e : atV L q.aI q.pn t with
  | none => rw [e] at h; cases h
  | some w =>
   rw [e] at h
   simp only at h
   by_cases c : (decide (w.bX = 0) && decide (1 ≤ t) && decide (w.made ≤ t)) = true
   ·rw [if_pos c] at h
    simp only [Bool.and_eq_true, decide_eq_true_eq] at c
    obtain ⟨⟨c1, c2⟩, c3⟩ := c
    obtain ⟨w1, w2, w3, w4⟩ := FA e
    have fw := i.f w w1
    have wb : w.by_ = z32 := by rcases fw.s with s | s; exact s.2; omega
    have i' : Inv (sN L w (fY w t q.by_)) t := by
     refine ⟨JP i.r w1 _ _, fun v hv => ?_, fun a ha b hb h1 h2 h3 => ?_⟩
     ·rcases xI hv with rfl | g
      ·exact ⟨fw.m0, fw.m, .inr ⟨(show 0 < t by omega), (show t ≤ t by omega), fw.m⟩, fw.v0, fw.v1⟩
      ·exact i.f v g
     ·rcases uZ i.r w1 hb with rfl | ⟨b1, b2⟩
      ·rcases uZ i.r w1 ha with rfl | ⟨a1, a2⟩
       ·omega
       ·exact i.o a a1 w w1 h1 h2 h3
      ·rcases uZ i.r w1 ha with rfl | ⟨a1, a2⟩
       ·have := i.o w w1 b b1 h1 h2 h3
        omega
       ·exact i.o a a1 b b1 h1 h2 h3
    obtain ⟨x, y⟩ := ES ht ps _ _ p i' h
    refine ⟨x, fun z hz => ?_⟩
    rw [y z hz]
    refine UA i.r w1 ?_
    unfold mA
    show (if z < w.made then _ else if z < t ∧ 0 < t then some (fY (fY w t q.by_) 0 z32) else _) = _
    by_cases c4 : z < w.made
    ·rw [if_pos c4, if_pos c4]
    ·rw [if_neg c4, if_neg c4, if_pos ⟨hz, by omega⟩, if_neg (by omega)]
     cases w
     simp only [fY] at *
     rw [c1, wb]
   ·rw [if_neg c] at h; cases h
theorem QJ {L : List Ver} {I : List Inf} {A : App} {q : List Ver × List Inf} (i : Inv L (((I.length : Nat) : Int) - 1)) (h : eW L I A = some q) :
  Inv q.1 ((q.2.length : Nat) - 1) ∧ (∀ z, z ≤ ((I.length : Nat) : Int) - 1 → fZ z q.1 = fZ z L) ∧ ∃ x, q.2 = I ++ [x] ∧ x.bJ = ((I.length : Nat) : Int) := by
 unfold eW at h
 split at h
 ·cases h
 ·rename_i hc
  rw [Bool.and_eq_true, decide_eq_true_eq] at hc
  obtain ⟨hk, hh⟩ := hc
  split at h
  ·cases h
  ·rename_i r hd
   split at h
   ·cases h
   ·injection h with h
    subst h
    unfold wA at hd
    split at hd
    ·rename_i r1 hp
     have hfit : ∀ v ∈ A.made, oP (((I.length : Nat) : Int) - 1 + 1) v = true := fun v hv => by
      have := (AZ hk v hv).2
      rw [hh] at this
      rw [Int.sub_add_cancel]
      exact this
     obtain ⟨m, c⟩ := DO A.made L _ r1 hfit ⟨i.r, fun v hv => .inl hv⟩ hp
     have i1 := m.inv i (by omega)
     rw [Int.sub_add_cancel] at i1
     rw [hh] at hd
     obtain ⟨i2, c2⟩ := ES (by omega) A.bR r1.1 r1.2 r i1 hd
     refine ⟨?_, fun z hz => by rw [c2 z (by omega), c z hz], _, rfl, hh⟩
     rw [List.length_append]
     have : (((I.length + [nK I A r.2].length : Nat) : Int) - 1) = ((I.length : Nat) : Int) := by simp
     rw [this]
     exact i2
    ·cases hd
theorem rN {z : Int} {v u : Ver} (h : mA z v = some u) : v.made ≤ z ∧ ((u = v ∧ (v.bX ≤ z ∨ v.bX ≤ 0)) ∨ (u = fY v 0 z32 ∧ z < v.bX ∧ 0 < v.bX)) := by
 unfold mA at h
 split at h
 ·cases h
 ·rename_i c
  split at h
  ·rename_i d
   injection h with h
   exact ⟨by omega, .inr ⟨h.symm, d⟩⟩
  ·rename_i d
   injection h with h
   exact ⟨by omega, .inl ⟨h.symm, by omega⟩⟩
theorem qK {z : Int} {v u : Ver} (h : mA z v = some u) : u.aI = v.aI ∧ u.pn = v.pn ∧ u.made = v.made ∧ u.value = v.value ∧ u.aJ = v.aJ := by
 rcases (rN h).2 with ⟨rfl, _⟩ | ⟨rfl, _⟩ <;> exact ⟨rfl, rfl, rfl, rfl, rfl⟩
theorem UD {L : List Ver} {t z : Int} (i : Inv L t) (hz : -1 ≤ z) : Inv (fZ z L) z := by
 refine ⟨?_, fun u hu => ?_, fun a ha b hb h1 h2 h3 => ?_⟩
 ·unfold cQ fZ
  rw [List.pairwise_filterMap]
  refine i.r.imp fun {a b} hab x hx y hy => ?_
  obtain ⟨x1, x2, x3, _⟩ := qK hx
  obtain ⟨y1, y2, y3, _⟩ := qK hy
  show orI (qM x.aI x.pn y.aI y.pn) (iO x.made y.made) < 0
  rw [x1, x2, x3, y1, y2, y3]
  exact hab
 ·obtain ⟨v, hv, e⟩ := List.mem_filterMap.1 hu
  obtain ⟨k1, k2, k3, k4, k5⟩ := qK e
  obtain ⟨c1, c2⟩ := rN e
  have f := i.f v hv
  refine ⟨by rw [k3]; exact f.m0, by omega, ?_, by rw [k4]; exact f.v0, by rw [k4]; exact f.v1⟩
  rcases c2 with ⟨rfl, c⟩ | ⟨rfl, c⟩
  ·rcases f.s with s | s
   ·exact .inl s
   ·exact .inr ⟨s.1, by omega, s.2.2⟩
  ·exact .inl ⟨rfl, rfl⟩
 ·obtain ⟨v, hv, e⟩ := List.mem_filterMap.1 ha
  obtain ⟨w, hw, g⟩ := List.mem_filterMap.1 hb
  obtain ⟨k1, k2, k3, k4, k5⟩ := qK e
  obtain ⟨l1, l2, l3, l4, l5⟩ := qK g
  have o := i.o v hv w hw (by rw [← k1, ← l1]; exact h1) (by rw [← k2, ← l2]; exact h2) (by omega)
  obtain ⟨c1, c2⟩ := rN e
  obtain ⟨d1, d2⟩ := rN g
  rcases c2 with ⟨rfl, c⟩ | ⟨rfl, c⟩
  ·omega
  ·omega
def Lev (I : List Inf) : Prop := ∀ (k : Nat) (hk : k < I.length), I[k].bJ = ((k : Nat) : Int)
theorem Lev.none : Lev [] := fun k hk => by simp at hk
theorem Lev.zH {I : List Inf} {x : Inf} (l : Lev I) (h : x.bJ = ((I.length : Nat) : Int)) : Lev (I ++ [x]) := fun k hk => by
 by_cases c : k < I.length
 ·rw [List.getElem_append_left c]; exact l k c
 ·rw [List.length_append, List.length_singleton] at hk
  have : k = I.length := by omega
  subst this
  simp [h]
theorem Lev.take {I : List Inf} (l : Lev I) (n : Nat) : Lev (I.take n) := fun k hk => by
 rw [List.getElem_take]
 exact l k _
theorem Lev.find {I : List Inf} (l : Lev I) {k : Nat} (hk : k < I.length) : hO I ((k : Nat) : Int) = some I[k] := by
 unfold hO
 rw [List.find?_eq_some_iff_getElem]
 refine ⟨decide_eq_true (l k hk), k, hk, rfl, fun j hj => ?_⟩
 rw [Bool.not_eq_true', decide_eq_false_iff_not, l j (by omega)]
 omega
structure Sto (L : List Ver) (I : List Inf) (k : Nat) : Prop where
 i : Inv L (((I.length : Nat) : Int) - 1)
 l : Lev I
 n : L.length ≤ 20 * k
 m : I.length ≤ k
theorem Sto.none : Sto [] [] 0 := ⟨Inv.none, Lev.none, Nat.le_refl _, Nat.le_refl _⟩
theorem Sto.up {L : List Ver} {I : List Inf} {k j : Nat} (s : Sto L I k) (h : k ≤ j) : Sto L I j := ⟨s.i, s.l, by have := s.n; omega, by have := s.m; omega⟩
theorem DN {L0 : List Ver} {t : Int} : ∀ (vs L : List Ver) (s : Int) (p : List Ver × Int), nF L0 t vs L s = some p → p.1.length = L.length + vs.length
 | [], L, s, p, h => by
  unfold nF at h
  injection h with h
  subst h
  rfl
 | v :: vs, L, s, p, h => by
  unfold nF at h
  by_cases c : ((atV L0 v.aI v.pn t).isSome || uF v L) = true
  ·rw [if_pos c] at h; cases h
  ·rw [if_neg c] at h
   rw [DN vs _ _ p h, DQ, List.length_cons]
   omega
theorem ER {t : Int} : ∀ (ps : List Spd) (L : List Ver) (s : Int) (p : List Ver × Int), nU t ps L s = some p → p.1.length = L.length
 | [], L, s, p, h => by
  unfold nU at h
  injection h with h
  subst h
  rfl
 | q :: ps, L, s, p, h => by
  unfold nU at h
  cases e : atV L q.aI q.pn t with
  | none => rw [e] at h; cases h
  | some w =>
   rw [e] at h
   simp only at h
   by_cases c : (decide (w.bX = 0) && decide (1 ≤ t) && decide (w.made ≤ t)) = true
   ·rw [if_pos c] at h
    rw [ER ps _ _ p h, DG]
   ·rw [if_neg c] at h; cases h
theorem QI {L : List Ver} {I : List Inf} {A : App} {q : List Ver × List Inf} (h : eW L I A = some q) : q.1.length = L.length + A.made.length := by
 unfold eW at h
 split at h
 ·cases h
 ·split at h
  ·cases h
  ·rename_i r hd
   split at h
   ·cases h
   ·injection h with h
    subst h
    unfold wA at hd
    split at hd
    ·rename_i r1 hp
     rw [ER _ _ _ _ hd, DN _ _ _ _ hp]
    ·cases hd
def Y9 (L : List Ver) (I : List Inf) (A : App) : List Ver × List Inf := (eW L I A).getD (L, I)
theorem Sto.got {L : List Ver} {I : List Inf} {k : Nat} (s : Sto L I k) (A : App) (hA : A.made.length ≤ 20) : Sto (Y9 L I A).1 (Y9 L I A).2 (k + 1) := by
 unfold Y9
 cases e : eW L I A with
 | none => exact s.up (by omega)
 | some q =>
  obtain ⟨a, b, x, c, d⟩ := QJ s.i e
  have hl := QI e
  have h1 := s.n
  have h2 := s.m
  show Sto q.1 q.2 (k + 1)
  exact ⟨a, by rw [c]; exact s.l.zH d, by omega, by rw [c, List.length_append, List.length_singleton]; omega⟩
theorem Sto.cut {L : List Ver} {I : List Inf} {k : Nat} (s : Sto L I k) {z : Int} (h1 : -1 ≤ z) (h2 : z ≤ ((I.length : Nat) : Int) - 1) : Sto (fZ z L) (I.take (z + 1).toNat) k := by
 have hl : (I.take (z + 1).toNat).length = (z + 1).toNat := by rw [List.length_take]; omega
 have h3 := s.n
 have h4 := s.m
 have h5 : (fZ z L).length ≤ L.length := List.length_filterMap_le _ _
 refine ⟨?_, s.l.take _, by omega, by omega⟩
 rw [hl, show (((z + 1).toNat : Nat) : Int) - 1 = z by omega]
 exact UD s.i h1
theorem yM (o : OpS) (tip : Int) : (kT o tip).made.length = o.A.made.length := by
 unfold kT
 cases o.next <;> simp
theorem QH {o : OpS} {tip : Int} (h : ∀ v ∈ o.A.made, 0 ≤ v.pn) : ∀ v ∈ (kT o tip).made, 0 ≤ v.pn := fun v hv => by
 unfold kT at hv
 cases hn : o.next with
 | false => rw [hn] at hv; exact h v hv
 | true =>
  rw [hn] at hv
  obtain ⟨w, hw, rfl⟩ := List.mem_map.1 hv
  exact h w hw
theorem ad4 {A : App} {mv sv : a9} (h : tF A mv sv) : ∀ v ∈ A.made, 0 ≤ v.pn := fun v hv => by
 obtain ⟨j, hj, rfl⟩ := List.mem_iff_getElem.1 hv
 obtain ⟨xs, hm⟩ := h.m
 obtain ⟨w, _, a⟩ := hm.at_ j hj
 exact a.pn
theorem HR {a : a9} {os : List OpS} {xs : List a9} {i : Nat} {o : OpS} {mv sv : a9} {h : Hp} {n : Nat} (ha : zA a os xs) (hi : i < os.length) (e : (xs.drop (i * 40)).take 40 = cT o mv sv) :
  Rd (load env 105 (cS (i * 40) a)) h n (rid a) (.agg (cT o mv sv)) := by
 have hr0 := ha.rd h
 have hld := hr0.agg (E := env) (n := n) (k := i * 40) A1 rfl (by decide) (by show i * 40 + 40 ≤ _; rw [hr0.length]; omega)
 have e' : (xs.drop (i * 40)).take 40 = cT o mv sv := e
 exact e' ▸ hld
theorem X8 {o : OpS} {mv sv : a9} {ys zs : List a9} (hm : FJ mv o.A.made ys) (hs : JF sv o.A.bR zs) : (cT o mv sv).all bB = true := by
 have a := ((hm.rd (fun _ => none)).kind).2.1
 have b := ((hs.rd (fun _ => none)).kind).2.1
 unfold cT
 rw [List.all_cons, List.all_append, kG a b]; rfl
theorem XQ (Q : dI) (ks : List Kf) (a : a9) (os : List OpS) (xs : List a9) (W : Nat → Prop) (s n0 : Nat) (h0 : Hp) (ha : zA a os xs) (hg : oN os = false) (hn0 : n0 ≤ s)
  (hT : ∀ (h : Hp) (n : Nat) (L : List Ver) (I : List Inf) (x0 x2 x5 x10 x14 x15 x23 : a9), St W h n s L I → Sto L I os.length → aY h n → (∀ j, j < n0 → h j = h0 j) →
   cV env 58 none Q ks (.exit 0) (x0 :: a9.aA :: x2 :: .ptr s 0 :: a9.aA :: x5 :: a9.aA :: a :: .int .i64 (os.length : Nat) :: .int .i64 (os.length : Nat) :: x10 :: a9.aA :: a9.aA :: a9.aA :: x14 :: x15 :: a9.aA :: a9.aA :: a9.aA :: a9.aA :: a9.aA :: a9.aA :: a9.aA :: x23 :: a9.aA :: a9.aA :: a9.aA :: a9.aA :: a9.aA :: a9.aA :: a9.aA :: []) h n) :
  ∀ (m i : Nat) (h : Hp) (n : Nat) (L : List Ver) (I : List Inf) (x0 x2 x5 x10 x14 x15 x23 : a9), i + m = os.length → St W h n s L I → Sto L I i → aY h n → (∀ j, j < n0 → h j = h0 j) →
   Run env 58 none Q (.loop GC) ks (x0 :: a9.aA :: x2 :: .ptr s 0 :: a9.aA :: x5 :: a9.aA :: a :: .int .i64 (os.length : Nat) :: .int .i64 (i : Nat) :: x10 :: a9.aA :: a9.aA :: a9.aA :: x14 :: x15 :: a9.aA :: a9.aA :: a9.aA :: a9.aA :: a9.aA :: a9.aA :: a9.aA :: x23 :: a9.aA :: a9.aA :: a9.aA :: a9.aA :: a9.aA :: a9.aA :: a9.aA :: []) h n := by
 obtain ⟨g1, g2⟩ := oM hg
 intro m
 induction m with
 | zero =>
  intro i h n L I x0 x2 x5 x10 x14 x15 x23 hm hs hS hf ho
  have : i = os.length := by omega
  subst this
  rw [bO]
  have hcc : ¬ (((os.length : Nat) : Int) < ((os.length : Nat) : Int)) := by omega
  simp only [GC, bC, Try.f58, Option.getD_some, fgr, bor, List.getD_cons_zero, hcc, gE]
  exact hT h n L I _ _ _ _ _ _ _ hs hS hf ho
 | succ m ih =>
  intro i h n L I x0 x2 x5 x10 x14 x15 x23 hm hs hS hf ho
  have hil : i < os.length := by omega
  have hcc : (((i : Nat) : Int) < ((os.length : Nat) : Int)) := by omega
  have w1 : IntKind.i64.wrap (((i : Nat) : Int) + 1) = ((i + 1 : Nat) : Int) := by rw [w64 (by omega) (by omega)]; omega
  obtain ⟨mv, sv, e, hA, hw⟩ := ha.at_ i hil
  have hr0 := ha.rd h
  have hmem : os[i] ∈ os := List.getElem_mem hil
  generalize hoi : os[i] = o at *
  obtain ⟨g3, g4, g5⟩ := g2 o hmem
  have hld := HR (h := h) (n := n) ha hil e
  have hAA := hA
  obtain ⟨⟨ys, hm1⟩, ⟨zs, hs1⟩, hb⟩ := hAA
  have sl := hS.n
  have sm := hS.m
  rw [bO]
  simp only [GC, bC, Try.f58, Option.getD_some, fgr, bor, List.getD_cons_zero, hcc, gE]
  rw [aE (hr0.idx (j := i) D8 LM rfl hil)]
  simp only [gE]
  rw [aE hld]
  simp only [gE]
  rw [bU A1 rfl]
  simp only [cel, gE]
  refine cK (v := .agg (cT o mv sv)) A1 rfl (pS hb) (X8 hm1 hs1) hf fun H1 r1 p1 f1 => ?_
  replace r1 : Row H1 n (cT o mv sv) := r1
  have s1 := hs.old (n' := n + 1) (by omega) (fun j hj => p1 j (by omega))
  have sn := hs.sn
  have ho1 : ∀ j, j < n0 → H1 j = h0 j := fun j hj => by rw [p1 j (by omega), ho j hj]
  simp only [tyr, fgr, aR, gE]
  rw [aE (K1 r1)]
  simp only [fgr, bor, gE]
  by_cases c0 : o.kind = 0
  ·simp only [bI, decide_true, c0]
   refine bW ⟨rfl, ?_⟩
   simp only [gE]
   rw [aW (NU r1 hb)]
   simp only [hkr, Nat.reduceAdd, gE]
   rw [aW (WY s1 (by omega))]
   simp only [hkr, Nat.reduceAdd, gE]
   refine cU f1 (f59 o _ mv sv H1 _ hA (by omega) (by omega) (fun v hv => by have := g5 v hv; omega) f1) fun v2 h2 n2 r2 w2 hn2 f2 ⟨mv2, sv2, e2, a2, o2⟩ => ?_
   subst e2
   have s2 := s1.old hn2 o2
   have ho2 : ∀ j, j < n0 → h2 j = h0 j := fun j hj => by rw [o2 j (by omega), ho1 j hj]
   simp only [hkr, Nat.reduceAdd, gE]
   refine cU f2 (f19 s2 (kT o _) mv2 sv2 (n + 1) n2 a2 (Nat.le_refl _) (fun j q1 q2 w => ?_) (QH (ad4 hA)) (by omega) (by rw [yM]; omega) f2) fun v3 h3 n3 r3 w3 hn3 f3 ⟨e3, o3, s3⟩ => ?_
   ·obtain ⟨x, lv, _, _, _, _, _, c⟩ := hs
    have := c j w
    omega
   subst e3
   have hS3 := hS.got (kT o (((I.length : Nat) : Int) - 1)) (by rw [yM]; exact g3)
   have ho3 : ∀ j, j < n0 → h3 j = h0 j := fun j hj => by rw [o3 j (by omega) (by omega), ho2 j hj]
   simp only [fgr, bor, bZ, Nat.reduceAdd, gE]
   refine ⟨(by (try simp (disch := first | assumption | omega) only [cJ, gF]); repeat' (first | rfl | exact (Bool.or_eq_true _ _).mpr (.inr rfl) | refine (Bool.and_eq_true _ _).mpr ⟨?_, ?_⟩)), ?_⟩
   simp only [w1]
   exact ih (i + 1) h3 n3 _ _ _ _ _ _ _ _ _ (by omega) s3 hS3 f3 ho3
  by_cases c1 : o.kind = 1
  ·simp only [tyr, fgr, bor, aR, Int.reduceEq, c1, gE]
   rw [aE (NS r1 hb)]
   simp only [hkr, gE]
   refine aQ f1 (f22 s1 o.num (by omega) (by omega) f1) fun v2 h2 n2 hn2 f2 ⟨o2, hh⟩ => ?_
   have ho2 : ∀ j, j < n0 → h2 j = h0 j := fun j hj => by rw [o2 j (by omega) (by omega), ho1 j hj]
   rcases hh with ⟨_, e2, s2⟩ | ⟨q1, q2, e2, s2⟩
   ·subst e2
    simp only [fgr, bor, bZ, w1, gE]
    exact ih (i + 1) h2 n2 L I _ _ _ _ _ _ _ (by omega) s2 (hS.up (by omega)) f2 ho2
   ·subst e2
    simp only [fgr, bor, bZ, w1, gE]
    exact ih (i + 1) h2 n2 _ _ _ _ _ _ _ _ _ (by omega) s2 ((hS.cut q1 q2).up (by omega)) f2 ho2
  simp only [fgr, bor, bZ, c0, c1, w1, gE]
  exact ih (i + 1) H1 (n + 1) L I _ _ _ _ _ _ _ (by omega) s1 (hS.up (by omega)) f1 ho1
theorem f58 (a : a9) (os : List OpS) (xs : List a9) (h : Hp) (n : Nat) (ha : zA a os xs) (hg : oN os = false) (hf : aY h n) :
  Wp (bH env (aV env) 58 [a]) h n fun v' h' n' => ∃ s L I, v' = .ptr s 0 ∧ n ≤ s ∧ St (fun j => j = s) h' n' s L I ∧ Sto L I 30 ∧ Old h h' n := by
 obtain ⟨g1, g2⟩ := oM hg
 have hr0 := ha.rd
 refine aU aN1 aB3 ?_
 simp only [Z4, Try.f58, Option.getD_some, List.replicate, fgr, hkr, Nat.reduceSub, gE]
 refine aQ hf (f26 (fun _ => False) h n hf (fun _ w => w.elim)) fun v1 h1 n1 hn1 f1 ⟨s, e1, hx, s1, o1⟩ => ?_
 subst e1
 have s1' : St (fun j => j = s) h1 n1 s [] [] := by
  have : (fun j => False ∨ j = s) = fun j => j = s := funext fun j => propext ⟨fun q => q.elim (fun q => q.elim) id, .inr⟩
  rw [← this]
  exact s1
 simp only [fgr, builtin, (hr0 h1).cA D8, gE]
 refine XQ _ _ a os xs (fun j => j = s) s n h1 ha hg hx ?_ os.length 0 h1 n1 [] [] _ _ _ _ _ _ _ (by omega) s1' Sto.none f1 (fun j hj => rfl)
 intro h2 n2 L I x0 x2 x5 x10 x14 x15 x23 s2 hS f2 ho
 simp only [fgr, gE]
 exact ⟨s, L, I, rfl, hx, s2, hS.up g1, fun j hj => by rw [ho j hj, o1 j hj]⟩
def hb_ (x : UInt8) : List UInt8 := x :: List.replicate 31 0
def nw (pn made value : Int) (s : List UInt8) : Ver := ⟨z0, pn, made, value, s, false, 0, z0⟩
theorem OI (pn made value : Int) (s : List UInt8) : (nw pn made value s).Ok := ⟨rfl, rfl⟩
theorem f16 (k : Int) (h : Hp) (n : Nat) (hf : aY h n) : Wp (bH env (aV env) 16 [.int .u32 k]) h n fun v' h' n' => v' = .agg (aS z0 k) ∧ Old h h' n := by
 have b28 : build env 28 [(1, .int .u32 k)] = M.pure (.agg (aS z0 k)) := rfl
 refine aU aP6 aD8 ?_
 simp only [ZS, Try.f16, Option.getD_some, List.replicate, Nat.reduceSub, gE]
 rw [bU gG rfl]
 obtain ⟨H1, hH1⟩ : ∃ H1, H1 = upd h n (some (.row (.l JI.i.zero.cells) 28)) := ⟨_, rfl⟩
 have g1 : H1 n = some (.row (.l JI.i.zero.cells) 28) := by rw [hH1, aO]
 have o1 : ∀ j, j ≠ n → H1 j = h j := fun j hj => by rw [hH1, aH _ _ hj]
 show Ops _ _ _ _ _ _ _ _ (upd h n (some (.row (.l JI.i.zero.cells) 28))) _
 rw [← hH1]
 clear hH1
 simp only [fgr, b28, gE]
 rw [cR (Row.write (off := 0) (v := .agg (aS z0 k)) g1 gG (bM rfl) (by decide) (sR _ _))]
 rw [dC (by rfl)]
 simp only [bI, fgr, bP, nth, aF, cel, true_and]
 refine dX (Row.eF (cs := aS z0 k) ⟨28, aO _ _ _⟩ gG rfl (bM rfl)) (aT.2 ?_)
 exact ⟨rfl, fun j hj => by rw [aH _ _ (by omega), o1 j (by omega)]⟩
theorem LR {h : Hp} {a b id cnt : Nat} {vs : List Ver} {cells : List a9} (hh : h id = some (.row (.l cells) 31)) (hl : vs.length = cnt) (v : Vs h (fun j => a ≤ j ∧ j < b ∧ j ≠ id) cells vs) (h1 : a ≤ id) (h2 : id < b) : VL h a b (.sl id 0 cnt (some cnt) 70) vs := by
 subst hl
 have e := v.len
 exact ⟨cells, .sl id _ (some vs.length) cells cells hh (by omega) (fun k q => by injection q with q; omega) (by rw [List.take_of_length_le (by omega)]), v.mono (fun j q => ⟨q.1, q.2.1, fun w => by injection w with w; exact q.2.2 w.symm⟩) (fun j q => rfl), fun j q => by injection q with q; omega⟩
theorem X0 {h : Hp} {a b id cnt : Nat} {ss : List Spd} {cells : List a9} (hh : h id = some (.row (.l cells) 48)) (hl : ss.length = cnt) (he : cells.length = cnt * 65) (hs : ∀ (j : Nat) (hj : j < ss.length), (cells.drop (j * 65)).take 65 = eJ ss[j] ∧ ss[j].Ok) (h1 : a ≤ id) (h2 : id < b) : SL h a b (.sl id 0 cnt (some cnt) 65) ss := by
 subst hl
 exact ⟨cells, .sl id _ (some ss.length) cells cells hh (by omega) (fun k q => by injection q with q; omega) (by rw [List.take_of_length_le (by omega)]), hs, fun j q => by injection q with q; omega⟩
theorem SS {h : Hp} {a b : Nat} : SL h a b .aN [] := ⟨[], .nil, fun j hj => by simp at hj, fun j q => by cases q⟩
def ab4 : App := ⟨0, hb_ 1, [nw 1 0 50 [115]], [], 0, 0⟩
def Q8 : App := ⟨1, hb_ 2, [nw 2 1 30 [115], nw 3 1 20 [116]], [⟨z0, 1, hb_ 9⟩], 3, 4⟩
def CG : Inf := ⟨0, hb_ 1, 1, 50, 0, 0⟩
def vJ : Inf := ⟨1, hb_ 2, 2, 50, 3, 4⟩
def U7 : List Ver := [fY (nw 1 0 50 [115]) 1 (hb_ 9), nw 2 1 30 [115], nw 3 1 20 [116]]
theorem aR1 : eW [] [] ab4 = some ([nw 1 0 50 [115]], [CG]) := by kernel_rfl
theorem aR0 : eW [nw 1 0 50 [115]] [CG] Q8 = some (U7, [CG, vJ]) := by kernel_rfl
theorem au1 : build env 25 [(0, .int .u8 1)] = M.pure (.agg ((hb_ 1).map u8)) := rfl
theorem VI : build env 25 [(0, .int .u8 2)] = M.pure (.agg ((hb_ 2).map u8)) := rfl
theorem au0 : build env 25 [(0, .int .u8 9)] = M.pure (.agg ((hb_ 9).map u8)) := rfl
theorem aS4 (n : Nat) (k value : Int) (s : List UInt8) : build env 31 [(0, .agg (aS z0 k)), (2, .int .i64 value), (3, .sl n 0 1 (some 1) 1)] = M.pure (.agg (aK (nw k 0 value s) (.sl n 0 1 (some 1) 1))) := rfl
end Go.Am.Ytlgebaofkolkoaa
set_option linter.unusedSimpArgs false
set_option linter.unusedVariables false
set_option linter.defProp false
set_option maxRecDepth 10000
namespace Go.Am.Ytlgebaofkolkoaa
open Go Go.Am Go.Proofs
theorem at9 (n : Nat) (k made value : Int) (s : List UInt8) : build env 31 [(0, .agg (aS z0 k)), (1, .int .i64 made), (2, .int .i64 value), (3, .sl n 0 1 (some 1) 1)] = M.pure (.agg (aK (nw k made value s) (.sl n 0 1 (some 1) 1))) := rfl
theorem aS1 (b : UInt8) (n : Nat) : build env 46 [(1, .agg ((hb_ b).map u8)), (2, .sl n 0 1 (some 1) 70)] = M.pure (.agg (aX ⟨0, hb_ b, [], [], 0, 0⟩ (.sl n 0 1 (some 1) 70) .aN)) := rfl
theorem ab8 {X Y : List a9} (hX : X.length = 70) (hY : Y.length = 70) : buildSlice env 43 2 [(0, .agg X), (1, .agg Y)] = (newRow env 31 (X ++ Y)).bind fun id => M.pure (.sl id 0 2 (some 2) 70) := by
 have e1 : fill (fun k => some (k * 70, 70)) (eY eK.i.zero.cells 2) [(0, .agg X), (1, .agg Y)] = some (X ++ Y) := by
  have : eY eK.i.zero.cells 2 = [] ++ eK.i.zero.cells ++ eK.i.zero.cells := rfl
  rw [this, gW (off := 0) (sz := 70) (pre := []) (mid := eK.i.zero.cells) (fA := eK.i.zero.cells) (v := .agg X) (rest := [(1, .agg Y)]) rfl rfl rfl hX rfl]
  have e : ([] ++ (a9.agg X).cells ++ eK.i.zero.cells) = X ++ eK.i.zero.cells ++ [] := by simp [a9.cells]
  rw [e, gW (off := 70) (sz := 70) (pre := X) (mid := eK.i.zero.cells) (fA := []) (v := .agg Y) (rest := []) rfl hX rfl hY rfl]
  simp [fill, a9.cells]
 have e2 : buildSlice env 43 2 [(0, .agg X), (1, .agg Y)] = (fV "buildSlice" (fill (fun k => some (k * 70, 70)) (eY eK.i.zero.cells 2) [(0, .agg X), (1, .agg Y)])).bind fun cs => (newRow env 31 cs).bind fun id => M.pure (.sl id 0 2 (some 2) 70) := rfl
 rw [e2, e1]
 rfl
theorem aR6 {X : List a9} (hX : X.length = 65) : buildSlice env 44 1 [(0, .agg X)] = (newRow env 48 X).bind fun id => M.pure (.sl id 0 1 (some 1) 65) := by
 have e1 : fill (fun k => some (k * 65, 65)) (eY BD.i.zero.cells 1) [(0, .agg X)] = some X := by
  have : eY BD.i.zero.cells 1 = [] ++ BD.i.zero.cells ++ [] := rfl
  rw [this, gW (off := 0) (sz := 65) (pre := []) (mid := BD.i.zero.cells) (fA := []) (v := .agg X) (rest := []) rfl rfl rfl hX rfl]
  simp [fill, a9.cells]
 have e2 : buildSlice env 44 1 [(0, .agg X)] = (fV "buildSlice" (fill (fun k => some (k * 65, 65)) (eY BD.i.zero.cells 1) [(0, .agg X)])).bind fun cs => (newRow env 48 cs).bind fun id => M.pure (.sl id 0 1 (some 1) 65) := rfl
 rw [e2, e1]
 rfl
theorem aR9 (k : Int) (b : UInt8) : build env 48 [(0, .agg (aS z0 k)), (1, .agg ((hb_ b).map u8))] = M.pure (.agg (eJ ⟨z0, k, hb_ b⟩)) := rfl
theorem aS0 (b : UInt8) (n m : Nat) (bJ eD left : Int) : build env 46 [(0, .int .i64 bJ), (1, .agg ((hb_ b).map u8)), (4, .int .i64 eD), (5, .int .i64 left), (2, .sl n 0 2 (some 2) 70), (3, .sl m 0 1 (some 1) 65)] = M.pure (.agg (aX ⟨bJ, hb_ b, [], [], eD, left⟩ (.sl n 0 2 (some 2) 70) (.sl m 0 1 (some 1) 65))) := rfl
theorem f14 (W : Nat → Prop) (h : Hp) (n : Nat) (hf : aY h n) (hw : ∀ j, W j → j < n) : Wp (bH env (aV env) 14 []) h n fun v' h' n' => ∃ s, v' = .ptr s 0 ∧ n ≤ s ∧ St (fun j => W j ∨ j = s) h' n' s U7 [CG, vJ] ∧ Old h h' n := by
 refine aU aP8 aE0 ?_
 simp only [ZU, Try.f14, Option.getD_some, List.replicate, fgr, hkr, Nat.reduceSub, gE]
 refine aQ hf (f26 W h n hf hw) fun v1 h1 n1 hn1 f1 ⟨s, e1, hx, s1, o1⟩ => ?_
 subst e1
 have sn := s1.sn
 simp only [fgr, hkr, au1, gE]
 refine aQ f1 (f16 1 h1 n1 f1) fun v2 h2 n2 hn2 f2 ⟨e2, o2⟩ => ?_
 subst e2
 simp only [tyr, cel, Nat.beq, buildSlice, eY, fill, List.take_zero, List.drop_succ_cons, List.drop_zero, Nat.ble, Nat.one_mul, gE]
 refine gT ti5 f2 (f := fun id => a9.sl id 0 1 (some 1) 1) fun H3 r3 o3 f3 => ?_
 have bb3 : Bytes H3 (.sl n2 0 1 (some 1) 1) [115] := Bytes.AN (l := [115]) r3
 simp only [tyr, lenOf, eE, Nat.beq, reduceCtorEq, Option.some.injEq, exists_eq_left', ne_eq, convert, fT, pE, r3, jI r3, A0, show (Nat.blt 0 1) = true from rfl, aS4 _ _ _ [115], LB (aZ (v := nw 1 0 50 [115]) rfl rfl), gE]
 refine gT cY f3 (f := fun id => a9.sl id 0 1 (some 1) 70) fun H4 r4 o4 f4 => ?_
 simp only [hkr, aS1, gE]
 have bb4 := bb3.aM (h' := H4) fun j q => o4 j (by injection q with q; omega)
 have v4 : VL H4 n1 (n2 + 1 + 1) (.sl (n2 + 1) 0 1 (some 1) 70) [nw 1 0 50 [115]] := LR r4 rfl ((Vs.nil H4 _).zH bb4 (OI _ _ _ _) fun i q => by injection q with q; omega) (by omega) (by omega)
 have a4 : jT H4 n1 (n2 + 1 + 1) ab4 (.sl (n2 + 1) 0 1 (some 1) 70) .aN := ⟨v4, SS, rfl, by decide, by decide⟩
 have s4 := s1.old (n' := n2 + 1 + 1) (by omega) (h' := H4) fun j hj => by rw [o4 j (by omega), o3 j (by omega), o2 j hj]
 have nW : ∀ j, n1 ≤ j → ¬ (W j ∨ j = s) := fun j q w => by
  rcases w with w | w
  ·have := hw j w; omega
  ·omega
 refine aQ f4 (f19 s4 ab4 _ _ n1 (n2 + 1 + 1) a4 (Nat.le_refl _) (fun j q1 q2 => nW j q1) (by decide) (by decide) (by decide) f4) fun v5 h5 n5 hn5 f5 ⟨e5, o5, s5⟩ => ?_
 rw [aR1] at e5 s5
 subst e5
 simp only [Option.getD_some] at s5
 have oo5 : ∀ j, j < n → h5 j = h j := fun j hj => by rw [o5 j (by omega) (by omega), o4 j (by omega), o3 j (by omega), o2 j (by omega), o1 j hj]
 simp only [fgr, HS, gE]
 simp only [hkr, VI, gE]
 refine aQ f5 (f16 2 h5 n5 f5) fun v6 h6 n6 hn6 f6 ⟨e6, o6⟩ => ?_
 subst e6
 simp only [tyr, cel, Nat.beq, buildSlice, eY, fill, List.take_zero, List.drop_succ_cons, List.drop_zero, Nat.ble, Nat.one_mul, gE]
 refine gT ti5 f6 (f := fun id => a9.sl id 0 1 (some 1) 1) fun H7 r7 o7 f7 => ?_
 have bb7 : Bytes H7 (.sl n6 0 1 (some 1) 1) [115] := Bytes.AN (l := [115]) r7
 simp only [tyr, hkr, lenOf, eE, Nat.beq, reduceCtorEq, Option.some.injEq, exists_eq_left', ne_eq, convert, fT, pE, r7, jI r7, A0, show (Nat.blt 0 1) = true from rfl, at9 _ _ _ _ [115], gE]
 refine aQ f7 (f16 3 H7 _ f7) fun v8 h8 n8 hn8 f8 ⟨e8, o8⟩ => ?_
 subst e8
 have bb8 := bb7.aM (h' := h8) fun j q => o8 j (by injection q with q; omega)
 simp only [tyr, cel, Nat.beq, buildSlice, eY, fill, List.take_zero, List.drop_succ_cons, List.drop_zero, Nat.ble, Nat.one_mul, gE]
 refine gT ti5 f8 (f := fun id => a9.sl id 0 1 (some 1) 1) fun H9 r9 o9 f9 => ?_
 have bb9 : Bytes H9 (.sl n8 0 1 (some 1) 1) [116] := Bytes.AN (l := [116]) r9
 have bc9 := bb8.aM (h' := H9) fun j q => o9 j (by injection q with q; omega)
 simp only [tyr, lenOf, eE, Nat.beq, reduceCtorEq, Option.some.injEq, exists_eq_left', ne_eq, convert, fT, pE, r9, jI r9, A0, show (Nat.blt 0 1) = true from rfl, at9 _ _ _ _ [116], ab8 (aZ (v := nw 2 1 30 [115]) rfl rfl) (aZ (v := nw 3 1 20 [116]) rfl rfl), gE]
 refine gT cY f9 (f := fun id => a9.sl id 0 2 (some 2) 70) fun H10 r10 o10 f10 => ?_
 have bb10 := bb9.aM (h' := H10) fun j q => o10 j (by injection q with q; omega)
 have bc10 := bc9.aM (h' := H10) fun j q => o10 j (by injection q with q; omega)
 simp only [hkr, gE]
 refine aQ f10 (f16 1 H10 _ f10) fun v11 h11 n11 hn11 f11 ⟨e11, o11⟩ => ?_
 subst e11
 simp only [au0, aR9, aR6 (lM (s := ⟨z0, 1, hb_ 9⟩) ⟨rfl, rfl⟩), gE]
 refine gT zE f11 (f := fun id => a9.sl id 0 1 (some 1) 65) fun H12 r12 o12 f12 => ?_
 simp only [hkr, aS0, gE]
 have t12 : ∀ j, j < n8 + 1 + 1 → H12 j = H10 j := fun j hj => by rw [o12 j (by omega), o11 j (by omega)]
 have bb12 := bb10.aM (h' := H12) fun j q => t12 j (by injection q with q; omega)
 have bc12 := bc10.aM (h' := H12) fun j q => t12 j (by injection q with q; omega)
 have r12' : H12 (n8 + 1) = some (.row (.l (aK (nw 2 1 30 [115]) (.sl n6 0 1 (some 1) 1) ++ aK (nw 3 1 20 [116]) (.sl n8 0 1 (some 1) 1))) 31) := (t12 _ (by omega)).trans r10
 have v12 : VL H12 n5 (n11 + 1) (.sl (n8 + 1) 0 2 (some 2) 70) Q8.made := LR r12' rfl (((Vs.nil H12 _).zH bc12 (OI 2 1 30 _) fun i q => by injection q with q; omega).zH bb12 (OI 3 1 20 _) fun i q => by injection q with q; omega) (by omega) (by omega)
 have a12 : jT H12 n5 (n11 + 1) Q8 (.sl (n8 + 1) 0 2 (some 2) 70) (.sl n11 0 1 (some 1) 65) := ⟨v12, X0 r12 rfl rfl (fun j hj => by
  have : j = 0 := by have : Q8.bR.length = 1 := rfl; omega
  subst this
  exact ⟨rfl, rfl, rfl⟩) (by omega) (by omega), rfl, by decide, by decide⟩
 have x12 : ∀ j, j < n5 → H12 j = h5 j := fun j hj => by rw [t12 j (by omega), o10 j (by omega), o9 j (by omega), o8 j (by omega), o7 j (by omega), o6 j hj]
 have s12 := s5.old (n' := n11 + 1) (by omega) (h' := H12) x12
 refine aQ f12 (f19 s12 Q8 _ _ n5 (n11 + 1) a12 (Nat.le_refl _) (fun j q1 q2 => nW j (by omega)) (by decide) (by decide) (by decide) f12) fun v13 h13 n13 hn13 f13 ⟨e13, o13, s13⟩ => ?_
 rw [aR0] at e13 s13
 subst e13
 simp only [Option.getD_some] at s13
 simp only [fgr, bor, bE, HS, gE]
 refine ⟨s, rfl, hx, s13, fun j hj => by rw [o13 j (by omega) (by omega), x12 j (by omega), oo5 j hj]⟩
def eqI (a b : Inf) : Bool := (a.bJ == b.bJ) && (decide (a.block = b.block) && ((a.jF == b.jF) && ((a.jJ == b.jJ) && ((a.eD == b.eD) && (a.left == b.left)))))
theorem EO (a : Inf) : eqI a a = true := by simp [eqI]
theorem AI {i : Inf} (hb : i.block.length = 32) : part env 25 (bK i) 1 = M.pure (.agg (i.block.map u8)) := by
 simp only [part, nC, aB, jG]
 rw [show ((bK i).drop 1).take 32 = i.block.map u8 by unfold bK; rw [List.drop_succ_cons, List.drop_zero, List.take_append_of_le_length (by simp [hb]), List.take_of_length_le (by simp [hb])]]
theorem aR3 (d : Nat) (a b : Inf) (ha : a.block.length = 32) (hb : b.block.length = 32) : equal env (d + 1 + 1 + 1) 61 (.agg (bK a)) (.agg (bK b)) = M.pure (eqI a b) := by
 have hq : zR env env.eqs 61 = true := rfl
 have p0 : ∀ (i : Inf), part env 3 (bK i) 0 = M.pure (.int .i64 i.bJ) := fun i => rfl
 have pk : ∀ (i : Inf) (k : Nat) (v : a9) (t : TypeId) (tt : ti env t = M.pure ty2.i ∨ ti env t = M.pure ty3.i), i.block.length = 32 → [a9.int .i64 i.jF, .int .i64 i.jJ, .int .i64 i.eD, .int .i64 i.left][k]? = some v → part env t (bK i) (33 + k) = M.pure v := fun i k v t tt hl e => by
  rcases tt with tt | tt <;> simp only [part, tt, aB, show jG ty2.i.desc = false from rfl, show jG ty3.i.desc = false from rfl, lY hl k, e, fV]
 have q3 : ∀ x y, equal env (d + 1 + 1) 3 (.int .i64 x) (.int .i64 y) = M.pure (x == y) := fun x y => by
  simp only [equal, und, ti3, aB, decide_true]
 have q2 : ∀ x y, equal env (d + 1 + 1) 2 (.int .i64 x) (.int .i64 y) = M.pure (x == y) := fun x y => by
  simp only [equal, und, ti2, aB, decide_true]
 rw [equal]
 ·simp only [und, fQ, aB, hq, gK]
  simp only [wQ, show decide ("Height" = "_") = false from rfl, show decide ("Block" = "_") = false from rfl, show decide ("Coins" = "_") = false from rfl, show decide ("Total" = "_") = false from rfl, show decide ("Burnt" = "_") = false from rfl, show decide ("Left" = "_") = false from rfl, p0, AI ha, AI hb, aB, QB d a.block b.block ha hb, pk a 0 _ 3 (.inr ti3) ha rfl, pk b 0 _ 3 (.inr ti3) hb rfl, pk a 1 _ 2 (.inl ti2) ha rfl, pk b 1 _ 2 (.inl ti2) hb rfl, pk a 2 _ 2 (.inl ti2) ha rfl, pk b 2 _ 2 (.inl ti2) hb rfl, pk a 3 _ 2 (.inl ti2) ha rfl, pk b 3 _ 2 (.inl ti2) hb rfl, q2, q3, Bool.and_true]
  rfl
 all_goals (intro k n h; cases h)
theorem VD (a b : Inf) (ha : a.block.length = 32) (hb : b.block.length = 32) : bL env .eql 61 (.agg (bK a)) (.agg (bK b)) = M.pure (.bool (eqI a b)) := by
 have e := aR3 97 a b ha hb
 unfold bL
 simp only
 unfold bS
 rw [e, aB]
theorem as1 : zW U7 [CG, vJ] [115] 0 = 50 := by kernel_rfl
theorem as0 : zW U7 [CG, vJ] [115] 1 = 30 := by kernel_rfl
theorem ar9 : nQ (hO [CG, vJ] 0) = 0 := by kernel_rfl
theorem VC : nQ (hO [CG, vJ] 1) = 0 := by kernel_rfl
theorem ar8 : (hO [CG, vJ] 1).getD fW = vJ := by kernel_rfl
theorem aR8 (bJ jF jJ eD left : Int) (b : UInt8) : build env 61 [(0, .int .i64 bJ), (1, .agg ((hb_ b).map u8)), (2, .int .i64 jF), (3, .int .i64 jJ), (4, .int .i64 eD), (5, .int .i64 left)] = M.pure (.agg (bK ⟨bJ, hb_ b, jF, jJ, eD, left⟩)) := rfl
theorem f27 (h : Hp) (n : Nat) (hf : aY h n) : Wp (bH env (aV env) 27 []) h n fun v' h' n' => v' = .bool true ∧ Old h h' n := by
 refine aU aO7 aC9 ?_
 simp only [ZJ, Try.f27, Option.getD_some, List.replicate, fgr, hkr, Nat.reduceSub, gE]
 refine aQ hf (f14 (fun _ => False) h n hf (fun j w => w.elim)) fun v1 h1 n1 hn1 f1 ⟨s, e1, hx, s1, o1⟩ => ?_
 subst e1
 simp only [tyr, fgr, cel, Nat.beq, buildSlice, eY, fill, List.take_zero, List.drop_succ_cons, List.drop_zero, Nat.ble, Nat.one_mul, gE]
 refine gT ti5 f1 (f := fun id => a9.sl id 0 1 (some 1) 1) fun H2 r2 o2 f2 => ?_
 have bb2 : Bytes H2 (.sl n1 0 1 (some 1) 1) [115] := Bytes.AN (l := [115]) r2
 have s2 := s1.old (n' := n1 + 1) (by omega) (h' := H2) fun j hj => o2 j (by omega)
 simp only [tyr, hkr, lenOf, eE, Nat.beq, reduceCtorEq, Option.some.injEq, exists_eq_left', ne_eq, convert, fT, pE, r2, jI r2, A0, show (Nat.blt 0 1) = true from rfl, gE]
 refine aQ f2 (f60 s2 _ [115] 0 bb2 (fun j q => by injection q with q; omega) (by decide) (by decide) f2) fun v3 h3 n3 hn3 f3 ⟨e3, o3⟩ => ?_
 subst e3
 have s3 := s2.old hn3 o3
 simp only [tyr, fgr, cel, Nat.beq, buildSlice, eY, fill, List.take_zero, List.drop_succ_cons, List.drop_zero, Nat.ble, Nat.one_mul, as1, ar9, gE]
 refine gT ti5 f3 (f := fun id => a9.sl id 0 1 (some 1) 1) fun H4 r4 o4 f4 => ?_
 have bb4 : Bytes H4 (.sl n3 0 1 (some 1) 1) [115] := Bytes.AN (l := [115]) r4
 have s4 := s3.old (n' := n3 + 1) (by omega) (h' := H4) fun j hj => o4 j (by omega)
 simp only [tyr, hkr, lenOf, eE, Nat.beq, reduceCtorEq, Option.some.injEq, exists_eq_left', ne_eq, convert, fT, pE, r4, jI r4, A0, show (Nat.blt 0 1) = true from rfl, gE]
 refine aQ f4 (f60 s4 _ [115] 1 bb4 (fun j q => by injection q with q; omega) (by decide) (by decide) f4) fun v5 h5 n5 hn5 f5 ⟨e5, o5⟩ => ?_
 subst e5
 have s5 := s4.old hn5 o5
 simp only [fgr, hkr, as0, VC, gE]
 refine aQ f5 (f25 s5 1 (by decide) f5) fun v6 h6 n6 hn6 f6 ⟨e6, ob6, o6⟩ => ?_
 subst e6
 simp only [ar8, VC, gE]
 rw [bU fQ rfl]
 simp only [cel, gE]
 refine cK (v := .agg (bK vJ)) fQ rfl rfl (dR _) f6 fun H7 r7 p7 f7 => ?_
 replace r7 : Row H7 n6 (bK vJ) := r7
 simp only [fgr, bor, bE, gE]
 rw [aE (r7.eF fQ rfl rfl)]
 simp only [fgr, bor, bE, VI, aR8, VD vJ ⟨1, hb_ 2, 2, 50, 3, 4⟩ rfl rfl, show eqI vJ ⟨1, hb_ 2, 2, 50, 3, 4⟩ = true from EO vJ, gE]
 exact fun j hj => by rw [p7 j (by omega), o6 j (by omega), o5 j (by omega), o4 j (by omega), o3 j (by omega), o2 j (by omega), o1 j hj]
structure Above (L : List Ver) (I : List Inf) (L' : List Ver) (I' : List Inf) : Prop where
 c : fZ (((I.length : Nat) : Int) - 1) L' = L
 n : I.length ≤ I'.length
 p : I'.take I.length = I
theorem vY {P : List Ver} {f : Ver → Bool} (h : ∀ v ∈ P, f v = false) : P.filter f = [] := by
 rw [List.filter_eq_nil_iff]
 intro v hv
 rw [h v hv]
 decide
theorem SA (v : Ver) (z : Int) : (asV z v).made = v.made := by
 unfold asV
 split <;> rfl
abbrev Sc := Ins.Sc
def ev (e : Sc) : a9 × a9 := (.str e.1, .int .i64 e.2)
def isS (s : List UInt8) : a9 → Bool
 | .str b => s == b
 | _ => false
theorem JH : und env 115 = M.pure (.map 9 2) := rfl
theorem z2o : j8 env 2 = M.pure (.int .i64 0) := rfl
theorem IK (s : List UInt8) : iX env 100 9 (.str s) = M.pure () := rfl
theorem Q9 (s b : List UInt8) : bS env 9 (.str s) (.str b) = M.pure (isS s (.str b)) := rfl
theorem N3 {s b : List UInt8} (h : isS s (.str b) = true) : jK (.str b) (.str s) = true := by
 have : s = b := by unfold isS at h; simpa using h
 subst this
 simp [jK, pQ]
theorem evs (s : List UInt8) (m : List Sc) : ∀ e ∈ m.map ev, bS env 9 (.str s) e.1 = M.pure (isS s e.1) := fun e he => by
 obtain ⟨x, hx, rfl⟩ := List.mem_map.1 he
 exact Q9 s x.1
def j3 (s : List UInt8) (v : Int) : List Sc → List Sc
 | [] => [(s, v)]
 | e :: m => if s = e.1 then (e.1, e.2 + v) :: m else e :: j3 s v m
def iY (s : List UInt8) : List Sc → Int
 | [] => 0
 | e :: m => if s = e.1 then e.2 else iY s m
theorem z4 {s : List UInt8} {v : Int} : ∀ {m : List Sc} {i : Nat}, dJ (isS s) (m.map ev) i = none → j3 s v m = m ++ [(s, v)] ∧ iY s m = 0
 | [], i, _ => ⟨rfl, rfl⟩
 | e :: m, i, h => by
  simp only [List.map_cons, dJ] at h
  split at h
  ·cases h
  ·rename_i c
   have hn : ¬ s = e.1 := fun q => c (by simp [ev, isS, q])
   obtain ⟨a, b⟩ := z4 (v := v) h
   simp only [j3, iY, if_neg hn, a, b, List.cons_append, and_self]
theorem yZ {s : List UInt8} {v : Int} : ∀ {m : List Sc} {i j : Nat} {x : a9}, dJ (isS s) (m.map ev) i = some (j, x) → ∃ q, j = i + q ∧ q < m.length ∧ m[q]? = some (s, iY s m) ∧ x = .int .i64 (iY s m) ∧ j3 s v m = m.modify q fun e => (e.1, e.2 + v)
 | [], i, j, x, h => by cases h
 | e :: m, i, j, x, h => by
  simp only [List.map_cons, dJ] at h
  split at h
  ·rename_i c
   have hn : s = e.1 := by simpa [ev, isS] using c
   injection h with h; injection h with h1 h2
   subst h1; subst h2
   refine ⟨0, rfl, by simp, ?_, ?_, ?_⟩
   ·simp [iY, hn]
   ·simp [iY, hn, ev]
   ·simp [j3, hn]
  ·rename_i c
   have hn : ¬ s = e.1 := fun q => c (by simp [ev, isS, q])
   obtain ⟨q, h1, h2, h3, h4, h5⟩ := yZ (v := v) h
   refine ⟨q + 1, by omega, by simpa using h2, ?_, ?_, ?_⟩
   ·simp only [List.getElem?_cons_succ, iY, if_neg hn, h3]
   ·simp only [iY, if_neg hn, h4]
   ·simp only [j3, if_neg hn, h5, List.modify_succ_cons]
theorem TD {h : Hp} {n id b : Nat} {m : List Sc} (hm : eP h id b (m.map ev)) (s : List UInt8) : Rd (iS env 115 (.map id) (.str s) false) h n [id] (.int .i64 (iY s m)) := by
 have L := hm.lookup (n := n) JH (IK s) (evs s m) z2o
 cases hi : dJ (isS s) (m.map ev) 0 with
 | none =>
  rw [hi] at L
  rw [(z4 (v := 0) hi).2]
  exact L
 | some y =>
  obtain ⟨j, x⟩ := y
  rw [hi] at L
  obtain ⟨q, _, _, _, h4, _⟩ := yZ (v := 0) hi
  rw [← h4]
  exact L
theorem kJ {h : Hp} {n id b : Nat} {m : List Sc} (hm : eP h id b (m.map ev)) (s : List UInt8) (v : Int) :
  ∃ h2, Wr (kB env 115 (.map id) (.str s) (.int .i64 (iY s m + v))) h n [id] [id] undef h2 ∧ eP h2 id b ((j3 s v m).map ev) ∧ ∀ j, j ≠ id → h2 j = h j := by
 cases hi : dJ (isS s) (m.map ev) 0 with
 | none =>
  obtain ⟨e1, e2⟩ := z4 (v := v) hi
  refine ⟨Go.Am.upd h id (some (.map (fB b (m.map ev) ++ [(.str s, .int .i64 (iY s m + v), b + (m.map ev).length)]) (b + (m.map ev).length + 1))), ?_, ?_, fun j hj => aH _ _ hj⟩
  ·show Wr _ h n ([] ++ [id]) [id] undef _
   simp only [kB, JH, aB]
   refine Wr.bind (Rd.get hm) ?_
   simp only [l8, IK, aB, lF _ b 0 (evs s m), hi]
   exact (Wr.set hm).ret
  ·unfold eP
   rw [aO, e1, e2, List.map_append, yK, List.length_append, Int.zero_add]
   rfl
 | some y =>
  obtain ⟨j, x⟩ := y
  obtain ⟨q, h1, h2, h3, h4, h5⟩ := yZ (v := v) hi
  rw [Nat.zero_add] at h1
  subst h1
  have hg : (m.map ev)[j]? = some (.str s, .int .i64 (iY s m)) := by rw [List.getElem?_map, h3]; rfl
  refine ⟨Go.Am.upd h id (some (.map (pO (fB b (m.map ev)) j (.int .i64 (iY s m + v))) (b + (m.map ev).length))), ?_, ?_, fun j hj => aH _ _ hj⟩
  ·show Wr _ h n ([] ++ [id]) [id] undef _
   simp only [kB, JH, aB]
   refine Wr.bind (Rd.get hm) ?_
   have hsk : jK (.str s) (.str s) = true := N3 (by simp [isS])
   simp only [l8, IK, aB, lF _ b 0 (evs s m), hi, yJ, hg, Option.map_some, fV, hsk]
   exact (Wr.set hm).ret
  ·unfold eP
   rw [aO, yI, h5]
   have : (m.modify j fun e => (e.1, e.2 + v)).map ev = (m.map ev).modify j fun e => (e.1, .int .i64 (iY s m + v)) := by
    refine List.ext_getElem? fun k => ?_
    rw [List.getElem?_map, List.getElem?_modify, List.getElem?_modify, List.getElem?_map]
    by_cases c : j = k
    ·subst c
     rw [h3]; simp [ev]
    ·simp only [if_neg c]
     cases m[k]? <;> rfl
   rw [this, List.length_modify]
def kC (l : List Ver) : List Sc := l.foldl (fun m v => j3 v.aJ v.value m) []
def BG (m : List Sc) : Sc := m.foldl Ins.bet ([], -1)
def pB (s : List UInt8) (m : List Sc) : List Sc := m.filter fun e => decide (e.1 ≠ s)
def sC : Nat → List Sc → List Sc
 | 0, _ => []
 | k + 1, m => match m with
  | [] => []
  | e :: m => BG (e :: m) :: sC k (pB (BG (e :: m)).1 (e :: m))
theorem EG : ∀ (m : List Sc) (b : Sc), m.foldl Ins.bet b = b ∨ m.foldl Ins.bet b ∈ m
 | [], b => .inl rfl
 | e :: m, b => by
  rw [List.foldl_cons]
  have hb : Ins.bet b e = e ∨ Ins.bet b e = b := by
   unfold Ins.bet
   split
   ·exact .inl rfl
   ·exact .inr rfl
  rcases EG m (Ins.bet b e) with q | q
  ·rw [q]
   rcases hb with r | r
   ·rw [r]; exact .inr (List.mem_cons_self ..)
   ·exact .inl r
  ·exact .inr (List.mem_cons_of_mem _ q)
theorem SO {m : List Sc} (hn : m ≠ []) (h0 : ∀ e ∈ m, 0 ≤ e.2) : BG m ∈ m := by
 cases m with
 | nil => exact absurd rfl hn
 | cons e m =>
  unfold BG
  rw [List.foldl_cons]
  have he : Ins.bet ([], -1) e = e := by
   have := h0 e (List.mem_cons_self ..)
   have c : iO (-1) e.2 < 0 := uL.2 (by omega)
   unfold Ins.bet Ins.wO orI
   rw [if_neg (show ¬ iO (([], -1) : Sc).2 e.2 = 0 from fun q => by have q' : iO (-1) e.2 = 0 := q; omega), if_pos c]
  rw [he]
  rcases EG m e with q | q
  ·rw [q]; exact List.mem_cons_self ..
  ·exact List.mem_cons_of_mem _ q
theorem TQ {s : List UInt8} {m : List Sc} (h : ∀ e ∈ m, e.1 ≠ s) : pB s m = m := by
 unfold pB
 rw [List.filter_eq_self]
 intro e he
 exact decide_eq_true (h e he)
theorem EI {kt : TypeId} {k : a9} {p : a9 → Bool} : ∀ (es : List Ent) (i : Nat), (∀ e ∈ es, bS env kt k e.1 = M.pure (p e.1)) → m8 env kt k es i = M.pure (dJ p (es.map fun e => (e.1, e.2.1)) i)
 | [], _, _ => rfl
 | e :: es, i, h => by
  simp only [m8, h e (List.mem_cons_self ..), aB, List.map_cons, dJ]
  cases p e.1 with
  | true => simp
  | false => simp only [Bool.false_eq_true]; exact EI es (i + 1) fun e he => h e (List.mem_cons_of_mem _ he)
theorem QD {es : List Ent} {ck : Nat} (f : Ins.Fit es ck) (s : List UInt8) : ∀ e ∈ es, bS env 9 (.str s) e.1 = M.pure (isS s e.1) := fun e he => by
 rw [(f.e e he).1]
 exact Q9 s _
theorem ET {s : List UInt8} : ∀ {es : List Ent} {i : Nat}, (∀ x ∈ es, x.1 = .str (Ins.dec x).1) → ((es.map Ins.dec).map (·.1)).Nodup → (∃ x ∈ es, (Ins.dec x).1 = s) →
  ∃ q y, dJ (isS s) (es.map fun e => (e.1, e.2.1)) i = some (i + q, y) ∧ q < es.length ∧ (es.eraseIdx q).map Ins.dec = pB s (es.map Ins.dec)
 | [], i, _, _, h => by
  obtain ⟨x, hx, _⟩ := h
  cases hx
 | e :: es, i, hk, hd, h => by
  have he := hk e (List.mem_cons_self ..)
  rw [List.map_cons, List.map_cons, List.nodup_cons] at hd
  by_cases c : (Ins.dec e).1 = s
  ·refine ⟨0, e.2.1, ?_, by simp, ?_⟩
   ·simp only [List.map_cons, dJ]
    rw [if_pos (by rw [he, c]; simp [isS])]; rfl
   ·rw [List.eraseIdx_cons_zero, List.map_cons]
    unfold pB
    rw [List.filter_cons_of_neg (by simp [c])]
    have : pB s (es.map Ins.dec) = es.map Ins.dec := TQ fun x hx q => hd.1 (by
     rw [c, ← q]
     exact List.mem_map.2 ⟨x, hx, rfl⟩)
    exact this.symm
  ·obtain ⟨q, y, h1, h2, h3⟩ := ET (i := i + 1) (fun x hx => hk x (List.mem_cons_of_mem _ hx)) hd.2 (by
    obtain ⟨x, hx, hs⟩ := h
    rcases List.mem_cons.1 hx with r | r
    ·rw [r] at hs; exact absurd hs c
    ·exact ⟨x, r, hs⟩)
   refine ⟨q + 1, y, ?_, by simpa using h2, ?_⟩
   ·simp only [List.map_cons, dJ]
    have hne : ¬ s = (Ins.dec e).1 := fun w => c w.symm
    rw [if_neg (by rw [he]; simp [isS, hne]), h1]
    congr 2; omega
   ·rw [List.eraseIdx_cons_succ, List.map_cons, h3, List.map_cons]
    unfold pB
    rw [List.filter_cons_of_pos (by simp [c])]
theorem TF {h : Hp} {n id ck : Nat} {es : List Ent} (hm : h id = some (.map es ck)) (f : Ins.Fit es ck) (hd : ((es.map Ins.dec).map (·.1)).Nodup) {s : List UInt8} (hs : ∃ x ∈ es, (Ins.dec x).1 = s) :
  ∃ es2 h2, Wr (uO env [115, 9] (.map id) (.str s)) h n [id] [id] (a9.tup []) h2 ∧ h2 id = some (.map es2 ck) ∧ Ins.Fit es2 ck ∧ es2.map Ins.dec = pB s (es.map Ins.dec) ∧ es2.length + 1 = es.length ∧ ∀ j, j ≠ id → h2 j = h j := by
 obtain ⟨q, y, h1, h2, h3⟩ := ET (i := 0) (fun x hx => (f.e x hx).1) hd hs
 rw [Nat.zero_add] at h1
 refine ⟨es.eraseIdx q, Go.Am.upd h id (some (.map (es.eraseIdx q) ck)), ?_, aO _ _ _, ⟨fun x hx => f.e x (List.mem_of_mem_eraseIdx hx), ?_⟩, h3, by rw [List.length_eraseIdx, if_pos h2]; omega, fun j hj => aH _ _ hj⟩
 ·show Wr _ h n ([] ++ [id]) [id] _ _
  simp only [uO, JH, aB]
  refine Wr.bind (Rd.get hm) ?_
  simp only [l8, IK, aB, EI es 0 (QD f s), h1]
  exact (Wr.set hm).ret
 ·have : ((es.eraseIdx q).map fun x => x.2.2).Sublist (es.map fun x => x.2.2) := (List.eraseIdx_sublist es q).map _
  exact this.nodup f.d
theorem GL {s : List UInt8} {m : List Sc} (h : (m.map (·.1)).Nodup) : ((pB s m).map (·.1)).Nodup := ((List.filter_sublist (l := m)).map _).nodup h
theorem TP {s : List UInt8} {m : List Sc} (h : ∀ e ∈ m, 0 ≤ e.2) : ∀ e ∈ pB s m, 0 ≤ e.2 := fun e he => h e (List.mem_filter.1 he).1
def RiL (h : Hp) (a b : Nat) (v : a9) (rs : List Sc) : Prop := ∃ cells, Lst h 41 2 v rs.length cells ∧ (∀ (j : Nat) (hj : j < rs.length), ∃ sv, (cells.drop (j * 2)).take 2 = [sv, .int .i64 rs[j].2] ∧ Bytes h sv rs[j].1 ∧ ∀ i, aP sv = some i → a ≤ i ∧ i < b ∧ aP v ≠ some i) ∧ ∀ j, aP v = some j → a ≤ j ∧ j < b
theorem RiL.aM {h h' : Hp} {a b : Nat} {v : a9} {rs : List Sc} (l : RiL h a b v rs) (hk : ∀ j, a ≤ j → j < b → h' j = h j) : RiL h' a b v rs := by
 obtain ⟨cells, c1, c2, c3⟩ := l
 refine ⟨cells, c1.aM fun j q => hk j (c3 j q).1 (c3 j q).2, fun j hj => ?_, c3⟩
 obtain ⟨sv, e, bs, d⟩ := c2 j hj
 exact ⟨sv, e, bs.aM fun i q => hk i (d i q).1 (d i q).2.1, d⟩
theorem RiL.wide {h : Hp} {a b c d : Nat} {v : a9} {rs : List Sc} (l : RiL h a b v rs) (h1 : c ≤ a) (h2 : b ≤ d) : RiL h c d v rs := by
 obtain ⟨cells, c1, c2, c3⟩ := l
 refine ⟨cells, c1, fun j hj => ?_, fun j q => by have := c3 j q; omega⟩
 obtain ⟨sv, e, bs, w⟩ := c2 j hj
 exact ⟨sv, e, bs, fun i q => ⟨by have := (w i q).1; omega, by have := (w i q).2.1; omega, (w i q).2.2⟩⟩
theorem RiL.nil {h : Hp} {a b : Nat} : RiL h a b .aN [] := ⟨[], .nil, fun j hj => by simp at hj, fun j q => by cases q⟩
theorem u36 : und env 36 = M.pure (.slice 41) := rfl
theorem z41 : sizeOf env 41 = M.pure 2 := rfl
theorem RiL.len {h : Hp} {a b : Nat} {v : a9} {rs : List Sc} (l : RiL h a b v rs) {ts : List TypeId} : cA env (36 :: ts) v = M.pure (.int .i64 (rs.length : Nat)) := by
 obtain ⟨cells, c1, c2, c3⟩ := l
 exact c1.rds.cA u36
theorem IH {h : Hp} {n id ck : Nat} {es : List Ent} (hm : h id = some (.map es ck)) : Rd (cA env [115] (.map id)) h n ([] ++ [id]) (.int .i64 (es.length : Nat)) := by
 simp only [cA, JH, aB]
 exact Rd.bind (Rd.get hm) (Rd.pure _)
theorem HX : ∀ (k : Nat) (h : Hp) (n : Nat), aY h n → Wp (Ins.E2 k) h n fun _ h' n' => h' = h ∧ n' = n + k
 | 0, h, n, hf => aT.2 ⟨rfl, rfl⟩
 | k + 1, h, n, hf => by
  have e : upd (upd h n (some (.mK [] 0))) n none = h := by
   rw [wT]
   exact jI (hf n (Nat.le_refl _))
  unfold Ins.E2
  rw [gC, qU]
  refine ⟨by rw [aO]; simp, ?_⟩
  rw [e]
  refine cP (HX k h (n + 1) (fun j hj => hf j (by omega))) fun _ h' n' q => ⟨q.1, by rw [q.2]; omega⟩
theorem T0 (tm : List a9) (it mm ck : Nat) (es : List Ent) (s : List UInt8) (v : Int) (h : Hp) (n : Nat) (Q : eS × List a9 → Hp → Nat → Prop) (hl : tm.length = 85) (h58 : tm[58]? = some (.ptr it 0)) (h14 : tm[14]? = some (.str s)) (h15 : tm[15]? = some (.int .i64 v))
  (g1 : h it = some (.hG mm ck [] ck)) (g2 : h mm = some (.map es ck)) (fit : Ins.Fit es ck) (itn : it < n) (mmn : mm < n) (hf : aY h n)
  (hQ : Q (.normal, Ins.J3 tm (Ins.CR es (s, v))) (upd h it none) (n + 1 + es.length)) : Wp (Ins.qZ tm) h n Q := by
 have hl' : tm.length.beq 85 = true := by rw [hl]; rfl
 have e : upd (upd h n (some (.mK [] 0))) n none = h := by
  rw [wT]
  exact jI (hf n (Nat.le_refl _))
 unfold Ins.qZ
 simp only [hl', h58, h14, h15]
 rw [eT]
 refine ⟨_, g1, ?_⟩
 simp only
 rw [eT]
 refine ⟨_, g2, ?_⟩
 simp only
 rw [gC, qU]
 refine ⟨by rw [aO]; simp, ?_⟩
 rw [e, if_pos ⟨fit, rfl, rfl, rfl, itn, mmn⟩]
 refine BA (cP (HX es.length h (n + 1) (fun j hj => hf j (by omega))) fun _ h' n' q => ?_)
 obtain ⟨rfl, rfl⟩ := q
 rw [qU]
 exact ⟨by rw [g1]; simp, aT.2 hQ⟩
theorem rbk : fP env.jB 17 4 Ins.X5.c = some Ins.qZ := Ins.tB Ins.X5 _ rfl
theorem b41 (id len : Nat) (v : Int) : build env 41 [(0, .sl id 0 len none 1), (1, .int .i64 v)] = M.pure (.agg [.sl id 0 len none 1, .int .i64 v]) := rfl
theorem aR7 (x y : a9) (hx : dD x = false) (hc : x.cells = [x]) (hy : y.cells = [y]) (hj : dD y = false) : buildSlice env 36 1 [(0, .agg [x, y])] = (newRow env 41 [x, y]).bind fun id => M.pure (.sl id 0 1 (some 1) 2) := rfl
theorem Y8 {l : List Ver} {i : Nat} (h : i < l.length) : kC (l.take (i + 1)) = j3 l[i].aJ l[i].value (kC (l.take i)) := by
 unfold kC
 rw [hU h, List.foldl_append]; rfl
theorem EC (s t : List UInt8) (v : Int) : ∀ m : List Sc, iY t (j3 s v m) = if t = s then iY t m + v else iY t m
 | [] => by
  by_cases c : t = s <;> simp [j3, iY, c]
 | e :: m => by
  have ih := EC s t v m
  by_cases c : s = e.1
  ·simp only [j3, if_pos c, iY]
   by_cases d : t = e.1
   ·rw [if_pos d, if_pos d, if_pos (by rw [c, d])]
   ·rw [if_neg d, if_neg d, if_neg (by rw [c]; exact d)]
  ·simp only [j3, if_neg c, iY]
   by_cases d : t = e.1
   ·rw [if_pos d, if_pos d, if_neg (by rw [d]; exact fun q => c q.symm)]
   ·rw [if_neg d, if_neg d]
    exact ih
theorem IQ (s : List UInt8) {M : Int} (hM : 0 ≤ M) : ∀ (l : List Ver), (∀ v ∈ l, 0 ≤ v.value ∧ v.value ≤ M) → ∀ (m : List Sc), 0 ≤ iY s m → 0 ≤ iY s (l.foldl (fun m v => j3 v.aJ v.value m) m) ∧ iY s (l.foldl (fun m v => j3 v.aJ v.value m) m) ≤ iY s m + M * (l.length : Nat)
 | [], _, m, h => ⟨h, by simp⟩
 | v :: l, hv, m, h => by
  obtain ⟨a, b⟩ := hv v (List.mem_cons_self ..)
  have g := EC v.aJ s v.value m
  have hg : 0 ≤ iY s (j3 v.aJ v.value m) ∧ iY s (j3 v.aJ v.value m) ≤ iY s m + M := by
   rw [g]
   split <;> omega
  obtain ⟨c, d⟩ := IQ s hM l (fun w hw => hv w (List.mem_cons_of_mem _ hw)) _ hg.1
  refine ⟨c, Int.le_trans d ?_⟩
  rw [List.length_cons]
  have : M * ((l.length + 1 : Nat) : Int) = M * (l.length : Nat) + M := by rw [Int.natCast_add, Int.mul_add, Int.natCast_one, Int.mul_one]
  omega
theorem Y6 (s : List UInt8) (l : List Ver) (hv : ∀ v ∈ l, 0 ≤ v.value ∧ v.value ≤ 2100000000000000) (hl : l.length ≤ 2000) : 0 ≤ iY s (kC l) ∧ iY s (kC l) ≤ 4200000000000000000 := by
 obtain ⟨a, b⟩ := IQ s (M := 2100000000000000) (by decide) l hv [] (Int.le_refl _)
 refine ⟨a, Int.le_trans b ?_⟩
 have : iY s [] = 0 := rfl
 omega
theorem P3 (Q : dI) (ks : List Kf) (v : a9) (s a b mid : Nat) (k z : Int) (l : List Ver) (h0 : Hp) (hl : l.length ≤ 1300) (hv : VL h0 a b v l) (hval : ∀ w ∈ l, 0 ≤ w.value ∧ w.value ≤ 2100000000000000) (hmid : mid < a) (hab : a ≤ b) (x0 : a9)
  (hT : ∀ (h : Hp) (n : Nat) (x9 x12 x13 x14 x15 x16 x17 x25 x33 x34 x35 x36 x56 x58 x60 x72 : a9), eP h mid 0 ((kC l).map ev) → b ≤ n → aY h n → (∀ j, j < mid → h j = h0 j) →
   cV env 17 none Q ks (.exit 0) (x0 :: .int .i64 k :: .int .i64 z :: a9.aA :: a9.aA :: a9.aA :: .aN :: .int .i64 0 :: a9.aA :: x9 :: .map mid :: a9.aA :: x12 :: x13 :: x14 :: x15 :: x16 :: x17 :: a9.aA :: a9.aA :: a9.aA :: a9.aA :: a9.aA :: a9.aA :: a9.aA :: x25 :: a9.aA :: a9.aA :: a9.aA :: a9.aA :: a9.aA :: a9.aA :: a9.aA :: x33 :: x34 :: x35 :: x36 :: a9.aA :: a9.aA :: a9.aA :: a9.aA :: a9.aA :: a9.aA :: a9.aA :: a9.aA :: a9.aA :: a9.aA :: a9.aA :: a9.aA :: a9.aA :: a9.aA :: a9.aA :: a9.aA :: a9.aA :: a9.aA :: a9.aA :: x56 :: a9.aA :: x58 :: a9.aA :: x60 :: a9.aA :: a9.aA :: a9.aA :: a9.aA :: a9.aA :: a9.aA :: a9.aA :: a9.aA :: a9.aA :: a9.aA :: a9.aA :: x72 :: a9.aA :: a9.aA :: a9.aA :: a9.aA :: a9.aA :: a9.aA :: a9.aA :: a9.aA :: a9.aA :: a9.aA :: a9.aA :: a9.aA :: []) h n) :
  ∀ (m i : Nat) (h : Hp) (n : Nat) (x9 x12 x13 x14 x15 x16 x17 x25 x36 x56 x58 x60 x72 : a9), i + m = l.length → eP h mid 0 ((kC (l.take i)).map ev) → b ≤ n → aY h n → (∀ j, j < b → j ≠ mid → h j = h0 j) →
   Run env 17 none Q (.loop C5) ks (x0 :: .int .i64 k :: .int .i64 z :: a9.aA :: a9.aA :: a9.aA :: .aN :: .int .i64 0 :: a9.aA :: x9 :: .map mid :: a9.aA :: x12 :: x13 :: x14 :: x15 :: x16 :: x17 :: a9.aA :: a9.aA :: a9.aA :: a9.aA :: a9.aA :: a9.aA :: a9.aA :: x25 :: a9.aA :: a9.aA :: a9.aA :: a9.aA :: a9.aA :: a9.aA :: a9.aA :: v :: .int .i64 (l.length : Nat) :: .int .i64 (i : Nat) :: x36 :: a9.aA :: a9.aA :: a9.aA :: a9.aA :: a9.aA :: a9.aA :: a9.aA :: a9.aA :: a9.aA :: a9.aA :: a9.aA :: a9.aA :: a9.aA :: a9.aA :: a9.aA :: a9.aA :: a9.aA :: a9.aA :: a9.aA :: x56 :: a9.aA :: x58 :: a9.aA :: x60 :: a9.aA :: a9.aA :: a9.aA :: a9.aA :: a9.aA :: a9.aA :: a9.aA :: a9.aA :: a9.aA :: a9.aA :: a9.aA :: x72 :: a9.aA :: a9.aA :: a9.aA :: a9.aA :: a9.aA :: a9.aA :: a9.aA :: a9.aA :: a9.aA :: a9.aA :: a9.aA :: a9.aA :: []) h n := by
 intro m
 induction m with
 | zero =>
  intro i h n x9 x12 x13 x14 x15 x16 x17 x25 x36 x56 x58 x60 x72 hm hmp hn hf ho
  have : i = l.length := by omega
  subst this
  rw [bO]
  have hcc : ¬ (((l.length : Nat) : Int) < ((l.length : Nat) : Int)) := by omega
  simp only [C5, bC, Try.f17, Option.getD_some, fgr, bor, Int.reduceNeg, List.getD_cons_zero, hcc, gE]
  rw [List.take_length] at hmp
  exact hT h n _ _ _ _ _ _ _ _ _ _ _ _ _ _ _ _ hmp hn hf fun j hj => ho j (by omega) (by omega)
 | succ m ih =>
  intro i h n x9 x12 x13 x14 x15 x16 x17 x25 x36 x56 x58 x60 x72 hm hmp hn hf ho
  have hil : i < l.length := by omega
  have hcc : (((i : Nat) : Int) < ((l.length : Nat) : Int)) := by omega
  have w1 : IntKind.i64.wrap (((i : Nat) : Int) + 1) = ((i + 1 : Nat) : Int) := by rw [w64 (by omega) (by omega)]; omega
  have hv1 : VL h a b v l := hv.aM fun j q1 q2 => ho j q2 (by omega)
  obtain ⟨sw, va⟩ := hv1.at_ hil
  have kd := va.s.kind
  have hs := Y8 hil
  have hw := hval _ (List.getElem_mem hil)
  have hle := Y6 l[i].aJ (l.take i) (fun w q => hval w (List.mem_of_mem_take q)) (by rw [List.length_take]; omega)
  have w2 : IntKind.i64.wrap (iY l[i].aJ (kC (l.take i)) + l[i].value) = iY l[i].aJ (kC (l.take i)) + l[i].value := w64 (by omega) (by omega)
  rw [bO]
  simp only [C5, bC, Try.f17, Option.getD_some, fgr, bor, Int.reduceNeg, List.getD_cons_zero, hcc, gE]
  rw [aE (hv1.idx hil)]
  simp only [gE]
  rw [aE (va.all n)]
  simp only [gE]
  rw [bU cY rfl]
  simp only [cel, gE]
  refine cK (v := .agg (aK l[i] sw)) cY rfl (aZ va.ok.h va.ok.b) (c8 kd.2.1) hf fun H1 r1 p1 f1 => ?_
  replace r1 : Row H1 n (aK l[i] sw) := r1
  have m1 : eP H1 mid 0 ((kC (l.take i)).map ev) := hmp.aM (p1 mid (by omega))
  have s1 : Bytes H1 sw l[i].aJ := va.s.aM fun j q => p1 j (by have := va.sn j q; omega)
  simp only [tyr, fgr, aR, gE]
  rw [aE (gS r1 va.ok)]
  simp only [gE]
  rw [aE (s1.FQ t29 t9 t5)]
  simp only [gE]
  rw [aE (TD m1 l[i].aJ)]
  simp only [tyr, aR, gE]
  rw [aE (jY r1 va.ok)]
  obtain ⟨h2, wr, m2, o2⟩ := kJ (n := n + 1) m1 l[i].aJ l[i].value
  simp only [bor, bZ, w2, gE]
  rw [cR wr]
  simp only [fgr, bor, bZ, w1, gE]
  rw [← hs] at m2
  exact ih (i + 1) h2 (n + 1) _ _ _ _ _ _ _ _ _ _ _ _ _ (by omega) m2 (by omega) (fun j hj => by rw [o2 j (by omega)]; exact f1 j hj) (fun j q1 q2 => by rw [o2 j q2, p1 j (by omega), ho j q1 q2])
theorem P2 (Q : dI) (ks : List Kf) (mid : Nat) (k z : Int) (h0 : Hp) (x0 : a9) :
  ∀ (c : Nat) (es : List Ent) (ck : Nat) (out : List Sc) (u : a9) (h : Hp) (n : Nat) (x9 x12 x14 x15 x16 x17 x25 x33 x34 x35 x36 x56 x58 x60 x72 : a9), es.length = c → c + out.length ≤ 2000 → h mid = some (.map es ck) → Ins.Fit es ck → ((es.map Ins.dec).map (·.1)).Nodup → (∀ e ∈ es.map Ins.dec, 0 ≤ e.2) →
   RiL h (mid + 1) n u out → mid < n → aY h n → (∀ j, j < mid → h j = h0 j) →
   (∀ (h : Hp) (n : Nat) (u : a9) (x0 x1 x2 x9 x12 x14 x15 x16 x17 x25 x33 x34 x35 x36 x56 x58 x60 x72 : a9), RiL h (mid + 1) n u (out ++ sC (k.toNat - out.length) (es.map Ins.dec)) → mid < n → aY h n → (∀ j, j < mid → h j = h0 j) →
    cV env 17 none Q ks (.exit 2) (x0 :: x1 :: x2 :: a9.aA :: a9.aA :: a9.aA :: .aN :: .int .i64 0 :: a9.aA :: x9 :: .map mid :: a9.aA :: x12 :: u :: x14 :: x15 :: x16 :: x17 :: a9.aA :: a9.aA :: a9.aA :: a9.aA :: a9.aA :: a9.aA :: a9.aA :: x25 :: a9.aA :: a9.aA :: a9.aA :: a9.aA :: a9.aA :: a9.aA :: a9.aA :: x33 :: x34 :: x35 :: x36 :: a9.aA :: a9.aA :: a9.aA :: a9.aA :: a9.aA :: a9.aA :: a9.aA :: a9.aA :: a9.aA :: a9.aA :: a9.aA :: a9.aA :: a9.aA :: a9.aA :: a9.aA :: a9.aA :: a9.aA :: a9.aA :: a9.aA :: x56 :: a9.aA :: x58 :: a9.aA :: x60 :: a9.aA :: a9.aA :: a9.aA :: a9.aA :: a9.aA :: a9.aA :: a9.aA :: a9.aA :: a9.aA :: a9.aA :: a9.aA :: x72 :: a9.aA :: a9.aA :: a9.aA :: a9.aA :: a9.aA :: a9.aA :: a9.aA :: a9.aA :: a9.aA :: a9.aA :: a9.aA :: a9.aA :: []) h n) →
   Run env 17 none Q (.loop C4) ks (x0 :: .int .i64 k :: .int .i64 z :: a9.aA :: a9.aA :: a9.aA :: .aN :: .int .i64 0 :: a9.aA :: x9 :: .map mid :: a9.aA :: x12 :: u :: x14 :: x15 :: x16 :: x17 :: a9.aA :: a9.aA :: a9.aA :: a9.aA :: a9.aA :: a9.aA :: a9.aA :: x25 :: a9.aA :: a9.aA :: a9.aA :: a9.aA :: a9.aA :: a9.aA :: a9.aA :: x33 :: x34 :: x35 :: x36 :: a9.aA :: a9.aA :: a9.aA :: a9.aA :: a9.aA :: a9.aA :: a9.aA :: a9.aA :: a9.aA :: a9.aA :: a9.aA :: a9.aA :: a9.aA :: a9.aA :: a9.aA :: a9.aA :: a9.aA :: a9.aA :: a9.aA :: x56 :: a9.aA :: x58 :: a9.aA :: x60 :: a9.aA :: a9.aA :: a9.aA :: a9.aA :: a9.aA :: a9.aA :: a9.aA :: a9.aA :: a9.aA :: a9.aA :: a9.aA :: x72 :: a9.aA :: a9.aA :: a9.aA :: a9.aA :: a9.aA :: a9.aA :: a9.aA :: a9.aA :: a9.aA :: a9.aA :: a9.aA :: a9.aA :: []) h n := by
 intro c
 induction c with
 | zero =>
  intro es ck out u h n x9 x12 x14 x15 x16 x17 x25 x33 x34 x35 x36 x56 x58 x60 x72 hc hcl hm fit hnd hnn hu hmn hf ho hT
  rw [bO]
  simp only [C4, bC, Try.f17, Option.getD_some, builtin, Int.reduceNeg, List.getD_cons_zero, List.getD_cons_succ, gE]
  rw [aE (IH hm)]
  simp only [fgr, bor, bE, Int.cast_ofNat_Int, Int.reduceLT, Int.reduceNeg, gt_iff_lt, hc, gE]
  have : es = [] := List.eq_nil_of_length_eq_zero hc
  subst this
  have e : sC (k.toNat - out.length) (([] : List Ent).map Ins.dec) = [] := by cases k.toNat - out.length <;> rfl
  rw [e, List.append_nil] at hT
  exact hT h n u _ _ _ _ _ _ _ _ _ _ _ _ _ _ _ _ _ _ hu hmn hf ho
 | succ c ih =>
  intro es ck out u h n x9 x12 x14 x15 x16 x17 x25 x33 x34 x35 x36 x56 x58 x60 x72 hc hcl hm fit hnd hnn hu hmn hf ho hT
  have hc0 : 0 < ((es.length : Nat) : Int) := by omega
  rw [bO]
  simp only [C4, bC, Try.f17, Option.getD_some, builtin, Int.reduceNeg, List.getD_cons_zero, List.getD_cons_succ, gE]
  rw [aE (IH hm)]
  simp only [fgr, builtin, bor, bE, Int.reduceNeg, gt_iff_lt, hc0, hu.len, gE]
  by_cases hk : ((out.length : Nat) : Int) < k
  ·simp only [fgr, Int.reduceNeg, hk, gE]
   simp only [range, JH, aB, BS]
   refine ⟨_, hm, ?_⟩
   simp only [oG]
   obtain ⟨H1, hH1⟩ : ∃ H1, H1 = upd h n (some (.hG mid ck [] ck)) := ⟨_, rfl⟩
   have g1 : H1 n = some (.hG mid ck [] ck) := by rw [hH1, aO]
   have o1 : ∀ j, j ≠ n → H1 j = h j := fun j hj => by rw [hH1, aH _ _ hj]
   have f1 : aY H1 (n + 1) := by rw [hH1]; exact hf.new
   rw [← hH1]
   clear hH1
   simp only [bI, fgr, bP, put, aF, Int.reduceNeg]
   refine JU rbk ?_
   refine T0 _ n mid ck es [] (-1) H1 (n + 1) _ rfl rfl rfl rfl g1 ((o1 mid (by omega)).trans hm) fit (by omega) (by omega) f1 ?_
   have hne : es.map Ins.dec ≠ [] := fun q => by
    have := congrArg List.length q
    rw [List.length_map] at this
    simp only [List.length_nil] at this
    omega
   have ert : sC (k.toNat - out.length) (es.map Ins.dec) = BG (es.map Ins.dec) :: sC (k.toNat - (out.length + 1)) (pB (BG (es.map Ins.dec)).1 (es.map Ins.dec)) := by
    obtain ⟨j, hj⟩ : ∃ j, k.toNat - out.length = j + 1 := ⟨k.toNat - out.length - 1, by omega⟩
    rw [hj, show k.toNat - (out.length + 1) = j by omega]
    cases hm' : es.map Ins.dec with
    | nil => exact absurd hm' hne
    | cons e m => rfl
   have etop : Ins.CR es ([], -1) = BG (es.map Ins.dec) := rfl
   have tmem := SO hne hnn
   rw [ert] at hT
   generalize hr : BG (es.map Ins.dec) = r at *
   rw [etop]
   generalize hn2 : n + 1 + 1 + es.length = n2
   generalize hH2 : upd H1 n none = H2
   have o2 : ∀ j, j ≠ n → H2 j = h j := fun j hj => by rw [← hH2, aH _ _ hj, o1 j hj]
   have f2 : aY H2 n2 := by
    rw [← hH2]
    intro j hj
    rw [aH _ _ (by omega)]
    exact f1 j (by omega)
   have hm2 : H2 mid = some (.map es ck) := (o2 mid (by omega)).trans hm
   simp only [Ins.J3, Ins.G4, Int.reduceNeg, gE]
   simp only [bI, tyr, und, sizeOf, nD, fJ, cB, Int.reduceNeg, convert, pE]
   rw [zV]
   refine gT ti5 f2 (f := fun id => a9.sl id 0 r.1.length none 1) fun H3 r3 o3 f3 => ?_
   have b3 : Bytes H3 (.sl n2 0 r.1.length none 1) r.1 := Bytes.AN r3
   simp only [Int.reduceNeg, b41, aR7 (.sl n2 0 r.1.length none 1) (.int .i64 r.2) rfl rfl rfl rfl, gE]
   refine gT MH f3 (f := fun id => a9.sl id 0 1 (some 1) 2) fun H4 r4 o4 f4 => ?_
   have b4 := b3.aM (h' := H4) fun j q => o4 j (by injection q with q; omega)
   have hu4 : RiL H4 (mid + 1) n u out := hu.aM fun j q1 q2 => by rw [o4 j (by omega), o3 j (by omega), o2 j (by omega)]
   obtain ⟨cells, c1, c2, c3⟩ := hu4
   have hrw : Rds H4 2 (.sl (n2 + 1) 0 1 (some 1) 2) 1 [.sl n2 0 r.1.length none 1, .int .i64 r.2] := kY (cnt := 1) r4 rfl
   simp only [builtin, Int.reduceNeg, gE]
   refine dP (i := SM.i) (e := 41) c1 hrw u36 u36 MH rfl (by decide) (by show 2 * (out.length + 1) * 32 ≤ _; omega) (by omega) f4 ?_
   intro u5 h5 n5 hn5 f5 l5 i5 o5
   have hm5 : h5 mid = some (.map es ck) := by
    rw [o5 mid (by omega) (fun q => by have := c3 mid q; omega), o4 mid (by omega), o3 mid (by omega)]
    exact hm2
   obtain ⟨xm, hxm, hxr⟩ := List.mem_map.1 tmem
   obtain ⟨es6, h6, wr, m6, fit6, d6, l6, o6⟩ := TF (n := n5) hm5 fit hnd (s := r.1) ⟨xm, hxm, by rw [hxr]⟩
   simp only [fgr, builtin, Int.reduceNeg, gE]
   rw [cR wr]
   simp only [bI, fgr, bP, aF, Int.reduceNeg]
   have id5 : ∀ j, aP u5 = some j → mid + 1 ≤ j ∧ j < n5 := fun j q => by
    rcases i5 with w | ⟨w, w2⟩
    ·rw [w] at q
     have := c3 j q
     omega
    ·rw [w] at q
     injection q with q
     omega
   have hne5 : ∀ j, j < n2 + 1 + 1 → aP u ≠ some j → aP u5 ≠ some j := fun j hj hn q => by
    rcases i5 with w | ⟨w, _⟩
    ·rw [w] at q; exact hn q
    ·rw [w] at q; injection q with q; omega
   have hu6 : RiL h6 (mid + 1) n5 u5 (out ++ [r]) := by
    have cl : cells.length = out.length * 2 := c1.rds.length
    refine ⟨cells ++ [.sl n2 0 r.1.length none 1, .int .i64 r.2], ?_, fun j hj => ?_, id5⟩
    ·rw [List.length_append]
     exact l5.aM fun j q => o6 j (by have := id5 j q; omega)
    ·by_cases hlt : j < out.length
     ·obtain ⟨sv, e, bs, d⟩ := c2 j hlt
      rw [List.getElem_append_left hlt]
      refine ⟨sv, ?_, bs.aM fun i q => ?_, fun i q => ?_⟩
      ·rw [List.drop_append_of_le_length (by omega), List.take_append_of_le_length (by rw [List.length_drop]; omega)]
       exact e
      ·have := d i q
       rw [o6 i (by omega), o5 i (by omega) this.2.2]
      ·have := d i q
       exact ⟨this.1, by omega, hne5 i (by omega) this.2.2⟩
     ·have : j = out.length := by rw [List.length_append, List.length_singleton] at hj; omega
      subst this
      rw [List.getElem_append_right (Nat.le_refl _)]
      simp only [Nat.sub_self, List.getElem_cons_zero]
      refine ⟨.sl n2 0 r.1.length none 1, ?_, b4.aM fun i q => ?_, fun i q => ?_⟩
      ·rw [← cl, List.drop_left]; rfl
      ·injection q with q
       subst q
       rw [o6 _ (by omega), o5 _ (by omega) (fun w => by have := c3 _ w; omega)]
      ·injection q with q
       subst q
       exact ⟨by omega, by omega, hne5 _ (by omega) (fun w => by have := c3 _ w; omega)⟩
   refine ih es6 ck (out ++ [r]) u5 h6 n5 _ _ _ _ _ _ _ _ _ _ _ _ _ _ _ (by omega) (by rw [List.length_append, List.length_singleton]; omega) m6 fit6 (by rw [d6]; exact GL hnd) (by rw [d6]; exact TP hnn) hu6 (by omega) (fun j hj => by rw [o6 j (by omega)]; exact f5 j hj) (fun j hj => ?_) ?_
   ·rw [o6 j (by omega), o5 j (by omega) (fun q => by have := c3 j q; omega), o4 j (by omega), o3 j (by omega), o2 j (by omega), ho j hj]
   ·rw [d6, List.length_append, List.length_singleton, List.append_assoc]
    exact hT
  ·simp only [bI, Int.reduceNeg, decide_false, hk]
   have e0 : k.toNat - out.length = 0 := by omega
   rw [e0, show sC 0 (es.map Ins.dec) = [] from rfl, List.append_nil] at hT
   exact hT h n u _ _ _ _ _ _ _ _ _ _ _ _ _ _ _ _ _ _ hu hmn hf ho
def p8 (L : List Ver) (I : List Inf) (k z : Int) : List Sc := match hO I z with
 | some _ => sC k.toNat (kC (L.filter fun v => dW v z))
 | none => []
theorem EU : ∀ (m : List Sc) (b : Nat), (fB b (m.map ev)).map Ins.dec = m
 | [], _ => rfl
 | e :: m, b => by
  simp only [List.map_cons, fB]
  rw [EU m (b + 1)]; rfl
theorem EH : ∀ (m : List Sc) (b ck : Nat), b + m.length ≤ ck → Ins.Fit (fB b (m.map ev)) ck ∧ ∀ x ∈ fB b (m.map ev), b ≤ x.2.2
 | [], b, ck, _ => ⟨⟨(fun x hx => nomatch hx), List.nodup_nil⟩, (fun x hx => nomatch hx)⟩
 | e :: m, b, ck, h => by
  rw [List.length_cons] at h
  obtain ⟨f, g⟩ := EH m (b + 1) ck (by omega)
  simp only [List.map_cons, fB]
  refine ⟨⟨fun x hx => ?_, ?_⟩, fun x hx => ?_⟩
  ·rcases List.mem_cons.1 hx with rfl | q
   ·exact ⟨rfl, rfl, (show b < ck by omega)⟩
   ·exact f.e x q
  ·rw [List.map_cons, List.nodup_cons]
   refine ⟨fun q => ?_, f.d⟩
   obtain ⟨x, hx, hb⟩ := List.mem_map.1 q
   have := g x hx
   have hb' : x.2.2 = b := hb
   omega
  ·rcases List.mem_cons.1 hx with rfl | q
   ·exact Nat.le_refl _
   ·have := g x q; omega
theorem vS (s : List UInt8) (v : Int) : ∀ m : List Sc, (j3 s v m).map (·.1) = if s ∈ m.map (·.1) then m.map (·.1) else m.map (·.1) ++ [s]
 | [] => rfl
 | e :: m => by
  have ih := vS s v m
  by_cases c : s = e.1
  ·simp [j3, c]
  ·have h1 : (j3 s v (e :: m)) = e :: j3 s v m := if_neg c
   rw [h1, List.map_cons, List.map_cons, ih]
   by_cases d : s ∈ m.map (·.1)
   ·rw [if_pos d, if_pos (List.mem_cons_of_mem _ d)]
   ·rw [if_neg d, if_neg fun w => (List.mem_cons.1 w).elim c d]; rfl
theorem HU {s : List UInt8} {v : Int} {m : List Sc} (h : (m.map (·.1)).Nodup) : ((j3 s v m).map (·.1)).Nodup := by
 rw [vS]
 split
 ·exact h
 ·rename_i c
  rw [List.nodup_append]
  refine ⟨h, by simp, fun a ha b hb => ?_⟩
  rw [List.mem_singleton] at hb
  subst hb
  exact fun q => c (by rw [← q]; exact ha)
theorem JD {s : List UInt8} {v : Int} (hv : 0 ≤ v) : ∀ {m : List Sc}, (∀ e ∈ m, 0 ≤ e.2) → ∀ e ∈ j3 s v m, 0 ≤ e.2
 | [], h, e, he => by
  rw [j3, List.mem_singleton] at he
  subst he; exact hv
 | x :: m, h, e, he => by
  have hx := h x (List.mem_cons_self ..)
  unfold j3 at he
  split at he
  ·rcases List.mem_cons.1 he with rfl | q
   ·show 0 ≤ x.2 + v
    omega
   ·exact h e (List.mem_cons_of_mem _ q)
  ·rcases List.mem_cons.1 he with rfl | q
   ·exact hx
   ·exact JD hv (fun y hy => h y (List.mem_cons_of_mem _ hy)) e q
theorem IV : ∀ (l : List Ver) (m : List Sc), (∀ v ∈ l, 0 ≤ v.value) → (m.map (·.1)).Nodup → (∀ e ∈ m, 0 ≤ e.2) →
  ((l.foldl (fun m v => j3 v.aJ v.value m) m).map (·.1)).Nodup ∧ (∀ e ∈ l.foldl (fun m v => j3 v.aJ v.value m) m, 0 ≤ e.2) ∧ (l.foldl (fun m v => j3 v.aJ v.value m) m).length ≤ m.length + l.length
 | [], m, _, h1, h2 => ⟨h1, h2, Nat.le_refl _⟩
 | v :: l, m, hv, h1, h2 => by
  obtain ⟨a, b, c⟩ := IV l (j3 v.aJ v.value m) (fun w hw => hv w (List.mem_cons_of_mem _ hw)) (HU h1) (JD (hv v (List.mem_cons_self ..)) h2)
  refine ⟨a, b, ?_⟩
  have hl : (j3 v.aJ v.value m).length ≤ m.length + 1 := by
   have := congrArg List.length (vS v.aJ v.value m)
   rw [List.length_map] at this
   rw [this]
   split
   ·rw [List.length_map]; omega
   ·rw [List.length_append, List.length_map]; simp
  have c' : (l.foldl (fun m v => j3 v.aJ v.value m) (j3 v.aJ v.value m)).length ≤ (j3 v.aJ v.value m).length + l.length := c
  rw [List.foldl_cons, List.length_cons]
  omega
theorem f17 {W : Nat → Prop} {h : Hp} {n s : Nat} {L : List Ver} {I : List Inf} (q : St W h n s L I) (k z : Int) (hI : I.length ≤ 900000) (hL : L.length ≤ 1300) (hval : ∀ v ∈ L, 0 ≤ v.value ∧ v.value ≤ 2100000000000000) (hf : aY h n) :
  Wp (bH env (aV env) 17 [.ptr s 0, .int .i64 k, .int .i64 z]) h n fun v' h' n' => Old h h' n ∧ ∃ u, v' = .tup [u, .int .i64 (nQ (hO I z))] ∧ RiL h' n n' u (p8 L I k z) := by
 refine aU ap7 al3 ?_
 simp only [KR, Try.f17, Option.getD_some, List.replicate, fgr, hkr, Nat.reduceAdd, Nat.reduceSub, Int.reduceNeg, gE]
 refine aQ hf (f25 q z (by omega) hf) fun v3 h3 n3 hn3 f3 ⟨e3, ob3, o3⟩ => ?_
 subst e3
 have q3 := q.old hn3 o3
 simp only [Int.reduceNeg, gE]
 rw [bU fQ rfl]
 simp only [cel, Int.reduceNeg, gE]
 refine cK (v := .agg (bK ((hO I z).getD fW))) fQ rfl (bQ ob3) (dR _) f3 fun H4 r4 o4 f4 => ?_
 have O4 : Old h3 H4 n3 := fun j hj => o4 j (by omega)
 have q4 := q3.old (n' := n3 + 1) (by omega) O4
 have OO4 : Old h H4 n := fun j hj => by rw [O4 j (by omega), o3 j hj]
 cases hi : hO I z with
 | none =>
  have hc : p8 L I k z = [] := by unfold p8; rw [hi]
  rw [hc]
  simp only [fgr, bor, Int.reduceEq, Int.reduceNeg, nQ, gE]
  exact ⟨OO4, _, rfl, .nil⟩
 | some i0 =>
  have hc : p8 L I k z = sC k.toNat (kC (L.filter fun v => dW v z)) := by unfold p8; rw [hi]
  rw [hc]
  simp only [tyr, fgr, opt, bor, aR, Int.reduceNeg, nQ, pZ, oG, gE]
  obtain ⟨H5, hH5⟩ : ∃ H5, H5 = upd H4 (n3 + 1) (some (.map [] 0)) := ⟨_, rfl⟩
  have g5 : H5 (n3 + 1) = some (.map [] 0) := by rw [hH5, aO]
  have o5 : ∀ j, j ≠ n3 + 1 → H5 j = H4 j := fun j hj => by rw [hH5, aH _ _ hj]
  have f5 : aY H5 (n3 + 1 + 1) := by rw [hH5]; exact f4.new
  rw [← hH5]
  clear hH5
  have q5 := q4.old (n' := n3 + 1 + 1) (by omega) (h' := H5) fun j hj => o5 j (by omega)
  have OO5 : Old h H5 n := fun j hj => by rw [o5 j (by omega), OO4 j hj]
  obtain ⟨x, lv, rs, ix, il, sa, sb, sc⟩ := q5
  rw [aE (rs.one (off := 0) rfl pD rfl)]
  simp only [hkr, Int.reduceNeg, gE]
  refine aQ f5 (aQ5 z ix.k (by omega) f5) fun v6 h6 n6 hn6 f6 ⟨l6, o6⟩ => ?_
  generalize hl : (L.filter fun v => dW v z) = l at *
  have ll : l.length ≤ 1300 := by rw [← hl]; exact Nat.le_trans (List.length_filter_le _ _) hL
  have lval : ∀ w ∈ l, 0 ≤ w.value ∧ w.value ≤ 2100000000000000 := fun w hw => by
   rw [← hl] at hw
   exact hval w (List.mem_filter.1 hw).1
  have g6 : eP h6 (n3 + 1) 0 ((kC (l.take 0)).map ev) := (o6 _ (by omega)).trans g5
  simp only [fgr, builtin, Int.reduceNeg, l6.len, gE]
  refine P3 _ _ v6 s (n3 + 1 + 1) n6 (n3 + 1) k z l h6 ll l6 lval (by omega) hn6 _ ?_ l.length 0 h6 n6 _ _ _ _ _ _ _ _ _ _ _ _ _ (by omega) g6 (Nat.le_refl _) f6 (fun j _ _ => rfl)
  intro h7 n7 x9 x12 x13 x14 x15 x16 x17 x25 x33 x34 x35 x36 x56 x58 x60 x72 m7 hn7 f7 o7
  obtain ⟨nd7, nn7, ln7⟩ := IV l [] (fun w hw => (lval w hw).1) List.nodup_nil (fun e he => by cases he)
  have m7' : h7 (n3 + 1) = some (.map (fB 0 ((kC l).map ev)) (0 + ((kC l).map ev).length)) := m7
  have hde : (fB 0 ((kC l).map ev)).map Ins.dec = kC l := EU _ _
  have hle : (fB 0 ((kC l).map ev)).length = (kC l).length := by rw [qI, List.length_map]
  have hfit := (EH (kC l) 0 (0 + ((kC l).map ev).length) (by rw [List.length_map]; omega)).1
  have hlen7 : (kC l).length ≤ 1300 := by
   have : (kC l).length ≤ ([] : List Sc).length + l.length := ln7
   simp only [List.length_nil] at this
   omega
  simp only [fgr, Int.reduceNeg, gE]
  refine P2 _ _ (n3 + 1) k z h7 _ _ (fB 0 ((kC l).map ev)) _ [] .aN h7 n7 _ _ _ _ _ _ _ _ _ _ _ _ _ _ _ rfl (by rw [hle]; show _ + 0 ≤ _; omega) m7' hfit (by rw [hde]; exact nd7) (by rw [hde]; exact nn7) .nil (by omega) f7 (fun j _ => rfl) ?_
  intro h8 n8 u x0 x1 x2 x9 x12 x14 x15 x16 x17 x25 x33 x34 x35 x36 x56 x58 x60 x72 r8 hn8 f8 o8
  rw [hde] at r8
  simp only [fgr, gE]
  refine ⟨fun j hj => by rw [o8 j (by omega), o7 j (by omega), o6 j (by omega), OO5 j hj], u, rfl, ?_⟩
  exact RiL.wide r8 (by omega) (Nat.le_refl _)
structure RAt (h : Hp) (a b : Nat) (v : a9) (k : Nat) (e : Sc) (sv : a9) : Prop where
 bal : ∀ n, Rd (load env 2 (cS (k + 1) v)) h n (rid v) (.int .i64 e.2)
 aJ : ∀ n, Rd (load env 29 (cS k v)) h n (rid v) sv
 mv : ∀ k m, aR m (cS k v) = M.pure (cS (k + m) v)
 s : Bytes h sv e.1
 sn : ∀ j, aP sv = some j → a ≤ j ∧ j < b
theorem RiL.at_ {h : Hp} {a b : Nat} {v : a9} {rs : List Sc} (l : RiL h a b v rs) {i : Nat} (hi : i < rs.length) : ∃ sv, RAt h a b v (i * 2) rs[i] sv := by
 obtain ⟨cells, c1, c2, c3⟩ := l
 obtain ⟨sv, e, bs, d⟩ := c2 i hi
 have hr := c1.rds
 have hl : i * 2 + 2 ≤ cells.length := by rw [show cells.length = rs.length * 2 from hr.length]; omega
 have one : ∀ k x, k < 2 → [sv, a9.int .i64 rs[i].2][k]? = some x → cells[i * 2 + k]? = some x := fun k x hk hx => by rw [tP e hk, hx]
 exact ⟨sv, fun n => hr.load ti2 rfl (one 1 _ (by omega) rfl), fun n => hr.load uY rfl (one 0 _ (by omega) rfl), fun k m => iQ hr (by omega) k m, bs, fun j q => ⟨(d j q).1, (d j q).2.1⟩⟩
theorem RiL.idx {h : Hp} {a b : Nat} {v : a9} {rs : List Sc} (l : RiL h a b v rs) {i : Nat} (hi : i < rs.length) {h' : Hp} {n' : Nat} : Rd (indexAddr env 36 v (.int .i64 ((i : Nat) : Int))) h' n' [] (cS (i * 2) v) := by
 obtain ⟨cells, c1, c2, c3⟩ := l
 exact c1.rds.idx u36 z41 rfl hi
theorem XU (Q : dI) (ks : List Kf) (v w : a9) (a b c d : Nat) (rs : List Sc) (h : Hp) (n : Nat) (hl : rs.length ≤ 100000) (hv : RiL h a b v rs) (hw : RiL h c d w rs)
  (hT : ∀ (x1 x4 x5 x10 x14 x42 : a9), cV env 18 none Q ks (.exit 0) (v :: x1 :: a9.aA :: a9.aA :: x4 :: x5 :: a9.aA :: a9.aA :: a9.aA :: a9.aA :: x10 :: a9.aA :: a9.aA :: a9.aA :: x14 :: a9.aA :: a9.aA :: a9.aA :: a9.aA :: a9.aA :: a9.aA :: a9.aA :: a9.aA :: a9.aA :: a9.aA :: a9.aA :: a9.aA :: a9.aA :: a9.aA :: a9.aA :: a9.aA :: a9.aA :: a9.aA :: a9.aA :: a9.aA :: a9.aA :: a9.aA :: a9.aA :: a9.aA :: a9.aA :: a9.aA :: a9.aA :: x42 :: []) h n) :
  ∀ (m i : Nat) (x4 x10 x14 x42 : a9), i + m = rs.length → Run env 18 none Q (.loop GJ) ks (v :: w :: a9.aA :: a9.aA :: x4 :: .int .i64 (i : Nat) :: a9.aA :: a9.aA :: a9.aA :: a9.aA :: x10 :: a9.aA :: a9.aA :: a9.aA :: x14 :: a9.aA :: a9.aA :: a9.aA :: a9.aA :: a9.aA :: a9.aA :: a9.aA :: a9.aA :: a9.aA :: a9.aA :: a9.aA :: a9.aA :: a9.aA :: a9.aA :: a9.aA :: a9.aA :: a9.aA :: a9.aA :: a9.aA :: a9.aA :: a9.aA :: a9.aA :: a9.aA :: a9.aA :: a9.aA :: a9.aA :: a9.aA :: x42 :: []) h n := by
 intro m
 induction m with
 | zero =>
  intro i x4 x10 x14 x42 hm
  have : i = rs.length := by omega
  subst this
  rw [bO]
  have hcc : ¬ (((rs.length : Nat) : Int) < ((rs.length : Nat) : Int)) := by omega
  simp only [GJ, bC, Try.f18, Option.getD_some, fgr, builtin, bor, hv.len, List.getD_cons_zero, hcc, gE]
  exact hT _ _ _ _ _ _
 | succ m ih =>
  intro i x4 x10 x14 x42 hm
  have hil : i < rs.length := by omega
  have hcc : (((i : Nat) : Int) < ((rs.length : Nat) : Int)) := by omega
  have w1 : IntKind.i64.wrap (((i : Nat) : Int) + 1) = ((i + 1 : Nat) : Int) := by rw [w64 (by omega) (by omega)]; omega
  obtain ⟨sv, va⟩ := hv.at_ hil
  obtain ⟨sw, wa⟩ := hw.at_ hil
  rw [bO]
  simp only [GJ, bC, Try.f18, Option.getD_some, fgr, builtin, bor, hv.len, List.getD_cons_zero, hcc, gE]
  refine bW ⟨rfl, ?_⟩
  simp only [Nat.reduceAdd, gE]
  rw [aW (hv.idx hil)]
  simp only [tyr, Nat.reduceAdd, va.mv, gE]
  rw [aW (va.bal n)]
  simp only [Nat.reduceAdd, gE]
  rw [aW (hw.idx hil)]
  simp only [tyr, Nat.reduceAdd, wa.mv, gE]
  rw [aW (wa.bal n)]
  simp only [bor, Nat.reduceAdd, gE]
  rw [aW (hv.idx hil)]
  simp only [tyr, Nat.reduceAdd, va.mv, gE]
  rw [aW (va.aJ n)]
  simp only [Nat.reduceAdd, gE]
  rw [aW (va.s.FQ t29 t9 t5)]
  simp only [Nat.reduceAdd, gE]
  rw [aW (hw.idx hil)]
  simp only [tyr, Nat.reduceAdd, wa.mv, gE]
  rw [aW (wa.aJ n)]
  simp only [Nat.reduceAdd, gE]
  rw [aW (wa.s.FQ t29 t9 t5)]
  simp only [fgr, bor, bZ, strOp, bE, Nat.reduceAdd, gE]
  refine ⟨(by (try simp (disch := first | assumption | omega) only [cJ, gF]); repeat' (first | rfl | exact (Bool.or_eq_true _ _).mpr (.inr rfl) | refine (Bool.and_eq_true _ _).mpr ⟨?_, ?_⟩)), ?_⟩
  simp only [w1]
  exact ih (i + 1) _ _ _ _ (by omega)
theorem f18 (v w : a9) (a b c d : Nat) (rs : List Sc) (h : Hp) (n : Nat) (hl : rs.length ≤ 100000) (hv : RiL h a b v rs) (hw : RiL h c d w rs) :
  Wp (bH env (aV env) 18 [v, w]) h n fun v' h' n' => v' = .bool true ∧ h' = h ∧ n' = n := by
 refine aU aP5 aD7 ?_
 simp only [ZR, Try.f18, Option.getD_some, List.replicate, fgr, builtin, bor, Nat.reduceAdd, Nat.reduceSub, hv.len, hw.len, gE]
 refine XU _ _ v w a b c d rs h n hl hv hw ?_ rs.length 0 _ _ _ _ (by omega)
 intro x1 x4 x5 x10 x14 x42
 simp only [fgr, gE]
def mU (a b : Ver) : Bool := decide (a.aI = b.aI) && (a.pn == b.pn)
theorem jX {a b : Ver} : mU a b = true ↔ a.aI = b.aI ∧ a.pn = b.pn := by
 unfold mU
 rw [Bool.and_eq_true, decide_eq_true_iff, beq_iff_eq]
theorem sP {a b : Ver} : mU a b = true ↔ mI a b = 0 := by
 rw [jX]
 have := @lN b.aI b.pn a
 unfold mI
 rw [← this]
 unfold same
 rw [Bool.and_eq_true, beq_iff_eq, decide_eq_true_iff]
def mH (L : List Ver) (i : Nat) : List Ver := L.filter fun v => (L.take i).any fun w => mU w v
theorem AR {f g : Ver → Bool} : ∀ (L : List Ver), (∀ a ∈ L, f a = true → g a = false) → (L.Pairwise fun a b => g a = true → f b = false) → L.filter (fun v => f v || g v) = L.filter f ++ L.filter g
 | [], _, _ => rfl
 | a :: L, h1, h2 => by
  rw [List.pairwise_cons] at h2
  have ih := AR L (fun b hb => h1 b (List.mem_cons_of_mem _ hb)) h2.2
  rw [List.filter_cons, List.filter_cons, List.filter_cons, ih]
  cases hf : f a with
  | true =>
   have := h1 a (List.mem_cons_self ..) hf
   simp [this]
  | false =>
   cases hg : g a with
   | false => simp
   | true =>
    have : L.filter f = [] := vY fun b hb => h2.1 b hb hg
    simp [this]
theorem PK {L : List Ver} {i : Nat} (hi : i < L.length) (h0 : 0 < i) (hs : mU L[i - 1] L[i] = true) : mH L (i + 1) = mH L i := by
 unfold mH
 refine List.filter_congr fun v _ => ?_
 rw [hU hi, List.any_append]
 cases h : (L.take i).any fun w => mU w v with
 | true => rfl
 | false =>
  simp only [List.any_cons, List.any_nil, Bool.or_false, Bool.false_or]
  rw [List.any_eq_false] at h
  have := h L[i - 1] (List.mem_take_iff_getElem.2 ⟨i - 1, by omega, rfl⟩)
  cases c : mU L[i] v with
  | false => rfl
  | true =>
   obtain ⟨a1, a2⟩ := jX.1 hs
   obtain ⟨b1, b2⟩ := jX.1 c
   exact absurd (jX.2 ⟨a1.trans b1, a2.trans b2⟩) this
theorem HC {a b : Ver} (h : eR a b < 0) : mI a b ≤ 0 := BQ h
theorem IP {L : List Ver} (r : cQ false L) {i : Nat} (hi : i < L.length) (hs : 0 < i → mU L[i - 1] L[i] = false) : mH L (i + 1) = mH L i ++ oL L L[i].aI L[i].pn := by
 have q := XB
 have le_tr : ∀ a b d : Ver, mI a b ≤ 0 → mI b d ≤ 0 → mI a d ≤ 0 := fun a b d h1 h2 => by
  by_cases e1 : mI a b = 0
  ·rw [q.eqv a b d e1]; exact h2
  ·by_cases e2 : mI b d = 0
   ·have e3 := q.eqv b d a e2
    have e4 := q.pF a b
    have e5 := q.pF a d
    omega
   ·have := q.lt a b d (by omega) (by omega)
    omega
 have before : ∀ j, j < i → ∀ hj : j < L.length, mI L[j] L[i] < 0 := fun j hji hj => by
  have h1 : mI L[j] L[i - 1] ≤ 0 := by
   by_cases e : j = i - 1
   ·subst e
    rw [q.refl]
    exact Int.le_refl _
   ·exact HC (r.at_ hj (by omega) (by omega))
  have h2 : mI L[i - 1] L[i] ≤ 0 := HC (r.at_ (by omega) hi (by omega))
  have h3 : mI L[i - 1] L[i] ≠ 0 := fun e => by
   have := hs (by omega)
   rw [sP.2 e] at this
   cases this
  by_cases e1 : mI L[j] L[i - 1] = 0
  ·rw [q.eqv _ _ _ e1]; omega
  ·have a1 : mI L[j] L[i - 1] < 0 := by omega
   have a2 : mI L[i - 1] L[i] < 0 := by omega
   exact q.lt _ _ _ a1 a2
 have e : mH L (i + 1) = L.filter fun v => ((L.take i).any fun w => mU w v) || same L[i].aI L[i].pn v := by
  unfold mH
  refine List.filter_congr fun v _ => ?_
  rw [hU hi, List.any_append]
  congr 1
  rw [List.any_cons, List.any_nil, Bool.or_false, Bool.eq_iff_iff, jX]
  unfold same
  rw [Bool.and_eq_true, beq_iff_eq, decide_eq_true_iff]
  exact ⟨fun w => ⟨w.1.symm, w.2.symm⟩, fun w => ⟨w.1.symm, w.2.symm⟩⟩
 rw [e, AR]
 ·rfl
 ·intro a _ h
  rw [List.any_eq_true] at h
  obtain ⟨w, hw, hsw⟩ := h
  obtain ⟨j, hj, rfl⟩ := List.mem_take_iff_getElem.1 hw
  have hb := before j (by omega) (by omega)
  cases c : same L[i].aI L[i].pn a with
  | false => rfl
  | true =>
   have e1 : mI a L[i] = 0 := lN.1 c
   have e2 := sP.1 hsw
   have := q.eqv _ _ L[i] e2
   omega
 ·refine r.imp fun {a b} hab hga => ?_
  cases c : (L.take i).any fun w => mU w b with
  | false => rfl
  | true =>
   rw [List.any_eq_true] at c
   obtain ⟨w, hw, hsw⟩ := c
   obtain ⟨j, hj, rfl⟩ := List.mem_take_iff_getElem.1 hw
   have hb := before j (by omega) (by omega)
   have e1 : mI a L[i] = 0 := lN.1 hga
   have e2 := sP.1 hsw
   have e3 := q.eqv _ _ L[i] e2
   have e4 : mI a b ≤ 0 := HC hab
   have e5 := q.eqv a L[i] b e1
   have e6 := q.pF L[i] b
   omega
theorem TX (L : List Ver) : mH L L.length = L := by
 unfold mH
 rw [List.take_length, List.filter_eq_self]
 intro v hv
 rw [List.any_eq_true]
 exact ⟨v, hv, jX.2 ⟨rfl, rfl⟩⟩
theorem yN {z : Int} (hz : 0 ≤ z) (L : List Ver) : fZ z L = trV z L := by
 unfold fZ trV
 induction L with
 | nil => rfl
 | cons v L ih =>
  rw [List.filterMap_cons, List.filter_cons]
  by_cases c : z < v.made
  ·have : mA z v = none := by unfold mA; rw [if_pos c]
   rw [this, if_neg (by simp; omega)]
   exact ih
  ·rw [if_pos (by simp; omega), List.map_cons]
   have : mA z v = some (asV z v) := by
    unfold mA asV
    rw [if_neg c]
    by_cases d : z < v.bX
    ·rw [if_pos ⟨d, by omega⟩, if_pos d]
    ·rw [if_neg (fun w => d w.1), if_neg d]
   rw [this]
   simp only
   rw [ih]
theorem BF (z : Int) (a b : List Ver) : trV z (a ++ b) = trV z a ++ trV z b := by
 unfold trV
 rw [List.filter_append, List.map_append]
theorem as3 (h1 h2 : List UInt8) (n1 n2 : Int) (l1 : h1.length = 32) (l2 : h2.length = 32) : bL env .eql 28 (.agg (aS h1 n1)) (.agg (aS h2 n2)) = M.pure (.bool (decide (h1 = h2) && (n1 == n2))) := by
 have e := QA 97 h1 h2 n1 n2 l1 l2
 unfold bL
 simp only
 unfold bS
 rw [e, aB]
theorem Vs.app {h : Hp} {D : Nat → Prop} {c1 c2 : List a9} {v1 v2 : List Ver} (a : Vs h D c1 v1) (b : Vs h D c2 v2) : Vs h D (c1 ++ c2) (v1 ++ v2) := by
 have l1 := a.len
 have l2 := b.len
 refine ⟨by rw [List.length_append, List.length_append, l1, l2]; omega, fun j hj => ?_⟩
 by_cases hlt : j < v1.length
 ·obtain ⟨sv, e, x⟩ := a.at_ j hlt
  rw [List.getElem_append_left hlt]
  refine ⟨sv, ?_, x⟩
  rw [List.drop_append_of_le_length (by omega), List.take_append_of_le_length (by rw [List.length_drop]; omega)]
  exact e
 ·rw [List.length_append] at hj
  obtain ⟨sv, e, x⟩ := b.at_ (j - v1.length) (by omega)
  rw [List.getElem_append_right (by omega)]
  refine ⟨sv, ?_, x⟩
  rw [show j * 70 = c1.length + (j - v1.length) * 70 by rw [l1, Nat.sub_mul]; have : v1.length * 70 ≤ j * 70 := Nat.mul_le_mul_right _ (by omega); omega, List.drop_append, List.drop_of_length_le (Nat.le_add_right _ _), List.nil_append, Nat.add_sub_cancel_left]
  exact e
theorem Vs.sub {h : Hp} {D : Nat → Prop} {c : List a9} {l : List Ver} (a : Vs h D c l) {h' : Hp} {D' : Nat → Prop} (hd : ∀ j, D j → D' j) (hk : ∀ j, D j → h' j = h j) : Vs h' D' c l := a.mono hd hk
theorem LP {h : Hp} {D : Nat → Prop} {cells : List a9} {vs : List Ver} (p : Vs h D cells vs) : cells.all bB = true := by
 rw [List.all_eq_true]
 intro c hc
 obtain ⟨k, hk, rfl⟩ := List.mem_iff_getElem.1 hc
 have hl := p.len
 have hj : k / 70 < vs.length := by omega
 obtain ⟨sv, e, bs, _⟩ := p.at_ (k / 70) hj
 have hp := tP e (i := k % 70) (by omega)
 rw [show k / 70 * 70 + k % 70 = k by omega, List.getElem?_eq_getElem hk] at hp
 exact List.all_eq_true.1 (c8 bs.kind.2.1) _ (List.mem_of_getElem? hp.symm)
theorem XN (Q : dI) (ks : List Kf) (W : Nat → Prop) (v : a9) (s a b : Nat) (z : Int) (hz : 0 ≤ z) (L : List Ver) (I : List Inf) (i0 : Inf) (hi0 : hO I z = some i0) (h0 : Hp) (hL : L.length ≤ 1300) (hI : I.length ≤ 900000) (r : cQ false L) (hv : VL h0 a b v L) (hs0 : St W h0 b s L I)
  (hT : ∀ (h : Hp) (n : Nat) (acc : a9) (cells : List a9) (x0 x1 x6 x7 x8 x13 x14 x15 x32 : a9), Lst h 31 70 acc (trV z L).length cells → Vs h (fun j => b ≤ j ∧ j < n ∧ aP acc ≠ some j) cells (trV z L) → (∀ j, aP acc = some j → b ≤ j ∧ j < n) → b ≤ n → aY h n → Old h0 h b →
   cV env 61 none Q ks (.exit 0) (x0 :: x1 :: a9.aA :: a9.aA :: .aN :: acc :: x6 :: x7 :: x8 :: a9.aA :: a9.aA :: a9.aA :: a9.aA :: x13 :: x14 :: x15 :: a9.aA :: a9.aA :: a9.aA :: a9.aA :: a9.aA :: a9.aA :: a9.aA :: a9.aA :: a9.aA :: a9.aA :: a9.aA :: a9.aA :: a9.aA :: a9.aA :: a9.aA :: a9.aA :: x32 :: a9.aA :: a9.aA :: a9.aA :: a9.aA :: a9.aA :: a9.aA :: a9.aA :: a9.aA :: a9.aA :: a9.aA :: a9.aA :: a9.aA :: a9.aA :: a9.aA :: a9.aA :: a9.aA :: []) h n) :
  ∀ (m i : Nat) (h : Hp) (n : Nat) (acc : a9) (cells : List a9) (x7 x8 x15 x32 : a9), i + m = L.length → Lst h 31 70 acc (trV z (mH L i)).length cells → Vs h (fun j => b ≤ j ∧ j < n ∧ aP acc ≠ some j) cells (trV z (mH L i)) → (∀ j, aP acc = some j → b ≤ j ∧ j < n) → b ≤ n → aY h n → Old h0 h b →
   Run env 61 none Q (.loop C3) ks (.ptr s 0 :: .int .i64 z :: a9.aA :: a9.aA :: .aN :: acc :: v :: x7 :: x8 :: a9.aA :: a9.aA :: a9.aA :: a9.aA :: .int .i64 (L.length : Nat) :: .int .i64 (i : Nat) :: x15 :: a9.aA :: a9.aA :: a9.aA :: a9.aA :: a9.aA :: a9.aA :: a9.aA :: a9.aA :: a9.aA :: a9.aA :: a9.aA :: a9.aA :: a9.aA :: a9.aA :: a9.aA :: a9.aA :: x32 :: a9.aA :: a9.aA :: a9.aA :: a9.aA :: a9.aA :: a9.aA :: a9.aA :: a9.aA :: a9.aA :: a9.aA :: a9.aA :: a9.aA :: a9.aA :: a9.aA :: a9.aA :: a9.aA :: []) h n := by
 intro m
 induction m with
 | zero =>
  intro i h n acc cells x7 x8 x15 x32 hm hl hvs hid hn hf ho
  have : i = L.length := by omega
  subst this
  rw [TX] at hl hvs
  rw [bO]
  have hcc : ¬ (((L.length : Nat) : Int) < ((L.length : Nat) : Int)) := by omega
  simp only [C3, bC, Try.f61, Option.getD_some, fgr, bor, List.getD_cons_zero, hcc, gE]
  exact hT h n acc cells _ _ _ _ _ _ _ _ _ hl hvs hid hn hf ho
 | succ m ih =>
  intro i h n acc cells x7 x8 x15 x32 hm hl hvs hid hn hf ho
  have hs := hs0.old hn ho
  have hil : i < L.length := by omega
  have hcc : (((i : Nat) : Int) < ((L.length : Nat) : Int)) := by omega
  have w1 : IntKind.i64.wrap (((i : Nat) : Int) + 1) = ((i + 1 : Nat) : Int) := by rw [w64 (by omega) (by omega)]; omega
  have hv1 : VL h a b v L := hv.aM fun j _ q => ho j q
  obtain ⟨sw, va⟩ := hv1.at_ hil
  have hcut : nQ (hO I z) = 0 := by rw [hi0]; rfl
  have etr : jU L I L[i].aI L[i].pn z = trV z (oL L L[i].aI L[i].pn) := by unfold jU; rw [hi0]
  rw [bO]
  by_cases i0' : i = 0
  ·have hg := IP r hil (fun q => absurd q (by omega))
   have ipos : ¬ 0 < ((i : Nat) : Int) := by omega
   simp only [C3, bC, Try.f61, Option.getD_some, fgr, bor, List.getD_cons_zero, hcc, gE]
   refine bW ⟨rfl, ?_⟩
   simp only [fgr, bor, bE, Nat.reduceAdd, gt_iff_lt, ipos, gE]
   refine ⟨(by (try simp (disch := first | assumption | omega) only [cJ, gF]); repeat' (first | rfl | exact (Bool.or_eq_true _ _).mpr (.inr rfl) | refine (Bool.and_eq_true _ _).mpr ⟨?_, ?_⟩)), ?_⟩
   rw [aE (hv1.idx hil)]
   simp only [tyr, va.mv, gE]
   rw [aE (va.pt n)]
   simp only [hkr, gE]
   refine aQ hf (f21 hs L[i].aI L[i].pn z va.ok.h hI (by omega) hf) fun v2 h2 n2 hn2 f2 ⟨o2, u, e2, l2⟩ => ?_
   subst e2
   rw [etr] at l2
   have s2 := hs.old hn2 o2
   have l2' := l2
   obtain ⟨c2, d1, d2, d3⟩ := l2'
   have la2 := hl.aM (h' := h2) fun j q => o2 j (hid j q).2
   have va2 := hvs.sub (h' := h2) (D' := fun j => b ≤ j ∧ j < n2 ∧ aP acc ≠ some j) (fun j q => ⟨q.1, by omega, q.2.2⟩) (fun j q => o2 j q.2.1)
   have one2 : c2.all bB = true := LP d2
   have tl : (trV z (oL L L[i].aI L[i].pn)).length ≤ 1300 := Nat.le_trans (uW _ _) (Nat.le_trans (List.length_filter_le _ _) hL)
   have tg : (trV z (mH L i)).length ≤ 1300 := Nat.le_trans (uW _ _) (Nat.le_trans (List.length_filter_le _ _) hL)
   simp only [fgr, builtin, hcut, gE]
   refine dP (i := eK.i) (e := 31) la2 d1.rds u43 u43 cY one2 (by decide) (by show 2 * (_ + _) * 128 ≤ _; omega) (by omega) f2 ?_
   intro acc5 h5 n5 hn5 f5 l5 i5 o5
   have id5 : ∀ j, aP acc5 = some j → b ≤ j ∧ j < n5 := fun j q => by
    rcases i5 with w | ⟨w, w2⟩
    ·rw [w] at q; have := hid j q; omega
    ·rw [w] at q; injection q with q; omega
   have ne5 : ∀ j, j < n2 → aP acc ≠ some j → aP acc5 ≠ some j := fun j hj hn q => by
    rcases i5 with w | ⟨w, _⟩
    ·rw [w] at q; exact hn q
    ·rw [w] at q; injection q with q; omega
   have vb5 : Vs h5 (fun j => b ≤ j ∧ j < n5 ∧ aP acc5 ≠ some j) cells (trV z (mH L i)) := va2.sub (fun j q => ⟨q.1, by omega, ne5 j q.2.1 q.2.2⟩) (fun j q => o5 j q.2.1 q.2.2)
   have vc5 : Vs h5 (fun j => b ≤ j ∧ j < n5 ∧ aP acc5 ≠ some j) c2 (trV z (oL L L[i].aI L[i].pn)) := d2.sub (fun j q => ⟨by omega, by omega, ne5 j q.2.1 (fun w => by have := hid j w; omega)⟩) (fun j q => o5 j q.2.1 (fun w => by have := hid j w; omega))
   have vd5 := vb5.app vc5
   rw [← BF, ← hg] at vd5
   rw [show (trV z (mH L i)).length + (trV z (oL L L[i].aI L[i].pn)).length = (trV z (mH L (i + 1))).length by rw [hg, BF, List.length_append]] at l5
   simp only [fgr, bor, bZ, w1, gE]
   exact ih (i + 1) h5 n5 acc5 _ _ _ _ _ (by omega) l5 vd5 id5 (by omega) f5 (fun j hj => by rw [o5 j (by omega) (fun w => by have := hid j w; omega), o2 j (by omega), ho j hj])
  ·have ipos : 0 < ((i : Nat) : Int) := by omega
   have w2 : IntKind.i64.wrap (((i : Nat) : Int) - 1) = ((i - 1 : Nat) : Int) := by rw [w64 (by omega) (by omega)]; omega
   have hil2 : i - 1 < L.length := by omega
   obtain ⟨sx, vb⟩ := hv1.at_ hil2
   simp only [C3, bC, Try.f61, Option.getD_some, fgr, bor, List.getD_cons_zero, hcc, gE]
   refine bW ⟨rfl, ?_⟩
   simp only [bor, bZ, Nat.reduceAdd, gt_iff_lt, ipos, w2, gE]
   rw [aW (hv1.idx hil2)]
   simp only [tyr, Nat.reduceAdd, vb.mv, gE]
   rw [aW (vb.pt n)]
   simp only [Nat.reduceAdd, gE]
   rw [aW (hv1.idx hil)]
   simp only [tyr, Nat.reduceAdd, va.mv, gE]
   rw [aW (va.pt n)]
   simp only [fgr, bor, bE, Nat.reduceAdd, as3 _ _ _ _ vb.ok.h va.ok.h, gE]
   cases hsp : (decide (L[i - 1].aI = L[i].aI) && (L[i - 1].pn == L[i].pn)) with
   | true =>
    have hg := PK hil (by omega) hsp
    simp only [fgr, bor, bZ, gE]
    refine ⟨(by (try simp (disch := first | assumption | omega) only [cJ, gF]); repeat' (first | rfl | exact (Bool.or_eq_true _ _).mpr (.inr rfl) | refine (Bool.and_eq_true _ _).mpr ⟨?_, ?_⟩)), ?_⟩
    rw [← hg] at hl hvs
    simp only [w1]
    exact ih (i + 1) h n acc cells _ _ _ _ (by omega) hl hvs hid hn hf ho
   | false =>
    have hg := IP r hil (fun _ => hsp)
    simp only [gE]
    refine ⟨(by (try simp (disch := first | assumption | omega) only [cJ, gF]); repeat' (first | rfl | exact (Bool.or_eq_true _ _).mpr (.inr rfl) | refine (Bool.and_eq_true _ _).mpr ⟨?_, ?_⟩)), ?_⟩
    rw [aE (hv1.idx hil)]
    simp only [tyr, va.mv, gE]
    rw [aE (va.pt n)]
    simp only [hkr, gE]
    refine aQ hf (f21 hs L[i].aI L[i].pn z va.ok.h hI (by omega) hf) fun v2 h2 n2 hn2 f2 ⟨o2, u, e2, l2⟩ => ?_
    subst e2
    rw [etr] at l2
    have s2 := hs.old hn2 o2
    have l2' := l2
    obtain ⟨c2, d1, d2, d3⟩ := l2'
    have la2 := hl.aM (h' := h2) fun j q => o2 j (hid j q).2
    have va2 := hvs.sub (h' := h2) (D' := fun j => b ≤ j ∧ j < n2 ∧ aP acc ≠ some j) (fun j q => ⟨q.1, by omega, q.2.2⟩) (fun j q => o2 j q.2.1)
    have one2 : c2.all bB = true := LP d2
    have tl : (trV z (oL L L[i].aI L[i].pn)).length ≤ 1300 := Nat.le_trans (uW _ _) (Nat.le_trans (List.length_filter_le _ _) hL)
    have tg : (trV z (mH L i)).length ≤ 1300 := Nat.le_trans (uW _ _) (Nat.le_trans (List.length_filter_le _ _) hL)
    simp only [fgr, builtin, hcut, gE]
    refine dP (i := eK.i) (e := 31) la2 d1.rds u43 u43 cY one2 (by decide) (by show 2 * (_ + _) * 128 ≤ _; omega) (by omega) f2 ?_
    intro acc5 h5 n5 hn5 f5 l5 i5 o5
    have id5 : ∀ j, aP acc5 = some j → b ≤ j ∧ j < n5 := fun j q => by
     rcases i5 with w | ⟨w, w2⟩
     ·rw [w] at q; have := hid j q; omega
     ·rw [w] at q; injection q with q; omega
    have ne5 : ∀ j, j < n2 → aP acc ≠ some j → aP acc5 ≠ some j := fun j hj hn q => by
     rcases i5 with w | ⟨w, _⟩
     ·rw [w] at q; exact hn q
     ·rw [w] at q; injection q with q; omega
    have vb5 : Vs h5 (fun j => b ≤ j ∧ j < n5 ∧ aP acc5 ≠ some j) cells (trV z (mH L i)) := va2.sub (fun j q => ⟨q.1, by omega, ne5 j q.2.1 q.2.2⟩) (fun j q => o5 j q.2.1 q.2.2)
    have vc5 : Vs h5 (fun j => b ≤ j ∧ j < n5 ∧ aP acc5 ≠ some j) c2 (trV z (oL L L[i].aI L[i].pn)) := d2.sub (fun j q => ⟨by omega, by omega, ne5 j q.2.1 (fun w => by have := hid j w; omega)⟩) (fun j q => o5 j q.2.1 (fun w => by have := hid j w; omega))
    have vd5 := vb5.app vc5
    rw [← BF, ← hg] at vd5
    rw [show (trV z (mH L i)).length + (trV z (oL L L[i].aI L[i].pn)).length = (trV z (mH L (i + 1))).length by rw [hg, BF, List.length_append]] at l5
    simp only [fgr, bor, bZ, w1, gE]
    exact ih (i + 1) h5 n5 acc5 _ _ _ _ _ (by omega) l5 vd5 id5 (by omega) f5 (fun j hj => by rw [o5 j (by omega) (fun w => by have := hid j w; omega), o2 j (by omega), ho j hj])
theorem E8 (L : List Ver) : mH L 0 = [] := vY fun v _ => rfl
theorem f61 {W : Nat → Prop} {h : Hp} {n s : Nat} {L : List Ver} {I : List Inf} (q : St W h n s L I) (z : Int) (hz : 0 ≤ z) {i0 : Inf} (hi0 : hO I z = some i0) (hI : I.length ≤ 900000) (hL : L.length ≤ 1300) (hf : aY h n) :
  Wp (bH env (aV env) 61 [.ptr s 0, .int .i64 z]) h n fun v' h' n' => VL h' n n' v' (fZ z L) ∧ Old h h' n := by
 refine aU aM8 aB0 ?_
 simp only [Z1, Try.f61, Option.getD_some, List.replicate, fgr, hkr, Nat.reduceAdd, Nat.reduceSub, gE]
 refine aQ hf (f24 q (by omega) hf) fun v1 h1 n1 hn1 f1 ⟨l1, o1⟩ => ?_
 simp only [fgr, builtin, l1.len, gE]
 refine XN _ _ W v1 s n n1 z hz L I i0 hi0 h1 hL hI q.rL l1 (q.old hn1 o1) ?_ L.length 0 h1 n1 .aN [] _ _ _ _ (by omega) ?_ ?_ (fun j w => by cases w) (Nat.le_refl _) f1 (Old.refl _ _)
 ·intro h2 n2 acc cells x0 x1 x6 x7 x8 x13 x14 x15 x32 l2 v2 id2 hn2 f2 o2
  simp only [fgr, gE]
  rw [yN hz]
  exact ⟨⟨cells, l2, v2.sub (fun j w => ⟨by omega, w.2.1, w.2.2⟩) (fun j w => rfl), fun j w => by have := id2 j w; omega⟩, fun j hj => by rw [o2 j (by omega), o1 j hj]⟩
 ·rw [show trV z (mH L 0) = [] by rw [E8]; rfl]
  exact .nil
 ·rw [show trV z (mH L 0) = [] by rw [E8]; rfl]
  exact Vs.nil _ _
theorem FC (aI : List UInt8) (pn z : Int) (v : Ver) : same aI pn (asV z v) = same aI pn v := by
 unfold asV
 split <;> rfl
theorem vO {z : Int} (v : Ver) : dW (asV z v) z = dW v z := by
 unfold dW asV
 split
 ·rename_i c
  simp [fY, c]; rfl
 ·rfl
theorem J9 {z : Int} (hz : 0 ≤ z) (v : Ver) : asV z (asV z v) = asV z v := by
 unfold asV
 by_cases c : z < v.bX
 ·rw [if_pos c, if_neg (show ¬ z < (fY v 0 z32).bX by show ¬ z < 0; omega)]
 ·rw [if_neg c, if_neg c]
theorem B8 (v : Ver) (z : Int) : (asV z v).value = v.value := by
 unfold asV
 split <;> rfl
theorem pT {z : Int} (L : List Ver) (f : Ver → Bool) (hf : ∀ v, f (asV z v) = f v) (hm : ∀ v, f v = true → v.made ≤ z) : (trV z L).filter f = (L.filter f).map (asV z) := by
 unfold trV
 rw [List.filter_map, List.filter_filter]
 congr 1
 refine List.filter_congr fun v _ => ?_
 show (f (asV z v) && decide (v.made ≤ z)) = f v
 rw [hf]
 cases h : f v with
 | false => rfl
 | true => rw [decide_eq_true (hm v h)]; rfl
theorem T5 {z : Int} (L : List Ver) (aI : List UInt8) (pn : Int) : atV (trV z L) aI pn z = (atV L aI pn z).map (asV z) := by
 unfold atV
 rw [pT L _ (fun v => by rw [FC, vO]) (fun v h => ?_), List.getLast?_map]
 rw [Bool.and_eq_true] at h
 have := h.2
 unfold dW at this
 rw [Bool.and_eq_true, decide_eq_true_eq] at this
 exact this.1
theorem xG {v : Ver} {z : Int} (h : dW v z = true) : v.made ≤ z := by
 unfold dW at h
 rw [Bool.and_eq_true, decide_eq_true_eq] at h
 exact h.1
theorem T4 {z : Int} (L : List Ver) (aJ : List UInt8) : ofV (trV z L) aJ z = (ofV L aJ z).map (asV z) := by
 unfold ofV
 refine pT L _ (fun v => by rw [vO, oW]) (fun v h => ?_)
 rw [Bool.and_eq_true] at h
 exact xG h.2
theorem NZ {z : Int} (L : List Ver) : (trV z L).filter (fun v => dW v z) = (L.filter fun v => dW v z).map (asV z) := pT L _ (fun v => vO v) (fun v h => xG h)
theorem MW (z : Int) : ∀ (l : List Ver) (n : Int), (l.map (asV z)).foldl (fun n v => sW (n + v.value)) n = l.foldl (fun n v => sW (n + v.value)) n
 | [], n => rfl
 | v :: l, n => by
  rw [List.map_cons, List.foldl_cons, List.foldl_cons, B8]
  exact MW z l _
theorem Y7 (z : Int) (l : List Ver) : kC (l.map (asV z)) = kC l := by
 unfold kC
 generalize ([] : List Sc) = m
 induction l generalizing m with
 | nil => rfl
 | cons v l ih =>
  rw [List.map_cons, List.foldl_cons, List.foldl_cons, B8, oW]
  exact ih _
theorem ag2 {z : Int} (hz : 0 ≤ z) (l : List Ver) : trV z (trV z l) = trV z l := by
 unfold trV
 induction l with
 | nil => rfl
 | cons v l ih =>
  rw [List.filter_cons]
  split
  ·rename_i c
   rw [List.map_cons, List.filter_cons, if_pos (by rw [SA]; exact c), List.map_cons, J9 hz, ih]
  ·exact ih
theorem NY {z : Int} (L : List Ver) (aI : List UInt8) (pn : Int) : oL (trV z L) aI pn = trV z (oL L aI pn) := by
 unfold oL trV
 rw [List.filter_map, List.filter_filter, List.filter_filter]
 congr 1
 refine List.filter_congr fun v _ => ?_
 show (same aI pn (asV z v) && _) = _
 rw [FC, Bool.and_comm]
structure aS7 (L : List Ver) (I : List Inf) (z : Int) : Prop where
 i : hO (I.take (z + 1).toNat) z = hO I z
 c : ∀ aI pn, (mB (fZ z L) (I.take (z + 1).toNat) aI pn z).map (asV z) = (mB L I aI pn z).map (asV z) ∧ (mB (fZ z L) (I.take (z + 1).toNat) aI pn z).isSome = (mB L I aI pn z).isSome
 b : ∀ s, zW (fZ z L) (I.take (z + 1).toNat) s z = zW L I s z
 r : ∀ k, p8 (fZ z L) (I.take (z + 1).toNat) k z = p8 L I k z
 t : ∀ aI pn, jU (fZ z L) (I.take (z + 1).toNat) aI pn z = jU L I aI pn z
theorem T3 {L : List Ver} {I : List Inf} (l : Lev I) {j : Nat} (hj : j < I.length) : aS7 L I ((j : Nat) : Int) := by
 generalize hz : ((j : Nat) : Int) = z
 have z0 : 0 ≤ z := by omega
 have ei := l.find hj
 rw [hz] at ei
 have lt := l.take (z + 1).toNat
 have hl : j < (I.take (z + 1).toNat).length := by rw [List.length_take]; omega
 have ei2 := lt.find hl
 rw [hz, List.getElem_take] at ei2
 refine ⟨by rw [ei, ei2], fun aI pn => ?_, fun s => ?_, fun k => ?_, fun aI pn => ?_⟩
 ·unfold mB
  rw [ei, ei2, yN z0, T5]
  cases atV L aI pn z with
  | none => exact ⟨rfl, rfl⟩
  | some v =>
   refine ⟨?_, rfl⟩
   simp only [Option.map_some, J9 z0]
 ·unfold zW
  rw [ei, ei2, yN z0, T4]
  exact MW z _ 0
 ·unfold p8
  rw [ei, ei2, yN z0, NZ, Y7]
 ·unfold jU
  rw [ei, ei2, yN z0, NY, ag2 z0]
theorem DL : ∀ (k : Nat) (m : List Sc), (sC k m).length ≤ k
 | 0, _ => Nat.le_refl _
 | k + 1, [] => Nat.zero_le _
 | k + 1, e :: m => by
  rw [sC, List.length_cons]
  have := DL k (pB (BG (e :: m)).1 (e :: m))
  omega
end Go.Am.Ytlgebaofkolkoaa
set_option linter.unusedSimpArgs false
set_option linter.unusedVariables false
set_option linter.defProp false
set_option maxRecDepth 10000
namespace Go.Am.Ytlgebaofkolkoaa
open Go Go.Am Go.Proofs
set_option maxHeartbeats 4000000 in
theorem aj4 (v0 : a9) (hv0 : Arg Try.prog 101 [v0]) (v1 : List a9) (hv1 : Arg Try.prog 28 v1) (v2 : a9) (l2 : List UInt8) (hv2 : qT v2 l2) (a3 : Int) (w3 : (Lit.int .u8 a3).wf = true) :
  Wp (bH env (aV env) 13 [v0, .agg v1, v2, .int .u8 a3]) (fun _ => none) 0 fun v _ _ => v = .bool true := by
 obtain ⟨os, xs, ha⟩ := ad1 hv0
 obtain ⟨aI, pn, rfl, hh, hp⟩ := vR hv1
 have hz : 0 ≤ a3 ∧ a3 ≤ 255 := by
  simp only [Lit.wf, Bool.and_eq_true, decide_eq_true_eq] at w3
  exact w3
 have wz : IntKind.i64.wrap a3 = a3 := w64 (by omega) (by omega)
 refine aU aP9 aE1 ?_
 simp only [ZV, Try.f13, Option.getD_some, List.replicate, Nat.reduceAdd, Nat.reduceSub, gE]
 refine cG (v := .agg (aS aI pn)) gG rfl aY.none fun H1 r1 o1 f1 => ?_
 replace r1 : Row H1 0 (aS aI pn) := r1
 simp only [fgr, hkr, gE]
 refine aQ f1 (f27 _ _ f1) fun v2' h2 n2 hn2 f2 ⟨e2, o2⟩ => ?_
 subst e2
 have r2 := r1.aM (o2 0 (by omega))
 simp only [fgr, hkr, gE]
 refine dA (f57 v0 os xs h2 n2 ha) ?_
 by_cases g : oN os = true
 ·simp only [fgr, bor, bE, ↓reduceIte, Int.reduceLT, gt_iff_lt, g, gE]
 rw [Bool.not_eq_true] at g
 simp only [builtin, bor, bE, ↓reduceIte, Int.reduceLT, gt_iff_lt, g, Bool.false_eq_true, (hv2.bytes h2).cA t29, gE]
 by_cases g2 : 200 < ((l2.length : Nat) : Int)
 ·simp only [fgr, bE, g2, gE]
 simp only [fgr, hkr, unOp, bE, g2, gE]
 have gl := (oM g).1
 refine aQ f2 (f58 v0 os xs h2 n2 ha g f2) fun v3 h3 n3 hn3 f3 ⟨s, L, I, e3, hx, s3, hS, o3⟩ => ?_
 subst e3
 have sn3 := s3.sn
 have hl := hS.n
 have hi := hS.m
 have r3 := r2.aM (o3 0 (by omega))
 simp only [fgr, hkr, gE]
 rw [aE (WY s3 (by omega))]
 by_cases hI : I.length = 0
 ·have c0 : ((I.length : Nat) : Int) - 1 < 0 := by omega
  simp only [fgr, bor, c0, gE]
 have c0 : ¬ ((I.length : Nat) : Int) - 1 < 0 := by omega
 have w2 : IntKind.i64.wrap (((I.length : Nat) : Int) - 1 + 1) = ((I.length : Nat) : Int) := by rw [w64 (by omega) (by omega)]; omega
 simp only [tyr, fgr, hkr, lenOf, bor, bZ, convert, fT, pE, wz, c0, gE]
 rw [aE (WY s3 (by omega))]
 simp only [fgr, hkr, bor, bZ, decide_not, w2, gE]
 have m0 : 0 ≤ a3.tmod ((I.length : Nat) : Int) := Int.tmod_nonneg _ hz.1
 have m1 : a3.tmod ((I.length : Nat) : Int) < ((I.length : Nat) : Int) := Int.tmod_lt_of_pos _ (by omega)
 obtain ⟨j0, ej⟩ : ∃ j0 : Nat, a3.tmod ((I.length : Nat) : Int) = ((j0 : Nat) : Int) := ⟨(a3.tmod ((I.length : Nat) : Int)).toNat, by omega⟩
 rw [ej] at m1 ⊢
 have cI : ¬ ((I.length : Nat) : Int) = 0 := by omega
 refine ⟨by rw [decide_eq_false cI]; rfl, ?_⟩
 have P := T3 (L := L) hS.l (j := j0) (by omega)
 have ei := hS.l.find (k := j0) (by omega)
 have hval : ∀ v ∈ L, 0 ≤ v.value ∧ v.value ≤ 2100000000000000 := fun v hv => ⟨(hS.i.f v hv).v0, (hS.i.f v hv).v1⟩
 obtain ⟨i0, ei0⟩ : ∃ i0, hO I ((j0 : Nat) : Int) = some i0 := ⟨_, ei⟩
 clear ei
 generalize hz0 : ((j0 : Nat) : Int) = z at *
 have z0 : 0 ≤ z := by omega
 refine aQ f3 (f28 s3 (by omega) (by omega) f3) fun v4 h4 n4 hn4 f4 ⟨c, e4, hc4, c4, s4, o4⟩ => ?_
 subst e4
 have r4 := r3.aM (o4 0 (by omega))
 have cn4 := c4.sn
 simp only [fgr, hkr, gE]
 refine aQ f4 (f22 c4 z (by omega) (by omega) f4) fun v5 h5 n5 hn5 f5 ⟨o5, hh5⟩ => ?_
 rcases hh5 with ⟨q, _⟩ | ⟨q1, q2, e5, c5⟩
 ·omega
 subst e5
 have r5 := r4.aM (o5 0 (by omega) (by omega))
 have s5 := s4.next hn5 fun j hj w => by
  rcases w with w | w
  ·exact o5 j hj (by omega)
  ·exact o5 j hj (fun q => w (.inr q))
 have hS5 := hS.cut (z := z) (by omega) (by omega)
 have hl5 := hS5.n
 have hi5 := hS5.m
 obtain ⟨Pi, Pc, Pb, Pr, Pt⟩ := P
 generalize hL5 : fZ z L = L5 at *
 generalize hI5 : I.take (z + 1).toNat = I5 at *
 have hval5 : ∀ v ∈ L5, 0 ≤ v.value ∧ v.value ≤ 2100000000000000 := fun v hv => ⟨(hS5.i.f v hv).v0, (hS5.i.f v hv).v1⟩
 have ei5 := Pi
 rw [ei0] at ei5
 have g0 : nQ (hO I z) = 0 := by rw [ei0]; rfl
 have g5 : nQ (hO I5 z) = 0 := by rw [ei5]; rfl
 simp only [fgr, hkr, bor, gE]
 refine aQ f5 (f25 s5 z (by omega) f5) fun v6 h6 n6 hn6 f6 ⟨e6, ob6, o6⟩ => ?_
 subst e6
 rw [ei0] at ob6
 have ob : i0.block.length = 32 := ob6
 simp only [ei0, Option.getD_some, nQ, gE]
 rw [bU fQ rfl]
 simp only [cel, gE]
 refine cK (v := .agg (bK i0)) fQ rfl (bQ ob) (dR _) f6 fun H7 ri7 p7 f7 => ?_
 replace ri7 : Row H7 n6 (bK i0) := ri7
 have O7 : Old h5 H7 n5 := fun j hj => by rw [p7 j (by omega), o6 j hj]
 have s7 := s5.old (n' := n6 + 1) (by omega) O7
 have c7 := c5.old (n' := n6 + 1) (by omega) O7
 have r7 := r5.aM (O7 0 (by omega))
 simp only [fgr, hkr, gE]
 refine aQ f7 (f25 c7 z (by omega) f7) fun v8 h8 n8 hn8 f8 ⟨e8, ob8, o8⟩ => ?_
 subst e8
 simp only [ei5, Option.getD_some, nQ, gE]
 rw [bU fQ rfl]
 simp only [cel, gE]
 refine cK (v := .agg (bK i0)) fQ rfl (bQ ob) (dR _) f8 fun H9 rj9 p9 f9 => ?_
 replace rj9 : Row H9 n8 (bK i0) := rj9
 have O9 : Old H7 H9 (n6 + 1) := fun j hj => by rw [p9 j (by omega), o8 j hj]
 have s9 := s7.old (n' := n8 + 1) (by omega) O9
 have c9 := c7.old (n' := n8 + 1) (by omega) O9
 have r9 := r7.aM (O9 0 (by omega))
 have ri9 := ri7.aM (O9 n6 (by omega))
 obtain ⟨pc1, pc2⟩ := Pc aI pn
 simp only [fgr, gE]
 rw [aE (r9.eF gG rfl (bM hh))]
 simp only [hkr, gE]
 refine aQ f9 (f15 s9 aI pn z hh (by omega) (by omega) f9) fun v10 h10 n10 hn10 f10 ⟨o10, sa, e10, oka, ba, ia⟩ => ?_
 subst e10
 have ka := ba.kind
 simp only [g0, gE]
 rw [bU cY rfl]
 simp only [cel, gE]
 generalize hcv : ((mB L I aI pn z).map (asV z)).getD noV = cv at *
 generalize hci : (mB L I aI pn z).isSome = ci at *
 refine cK (v := .agg (aK cv sa)) cY rfl (aZ oka.h oka.b) (c8 ka.2.1) f10 fun H11 ra11 p11 f11 => ?_
 replace ra11 : Row H11 n10 (aK cv sa) := ra11
 have O11 : Old H9 H11 (n8 + 1) := fun j hj => by rw [p11 j (by omega), o10 j hj]
 have s11 := s9.old (n' := n10 + 1) (by omega) O11
 have c11 := c9.old (n' := n10 + 1) (by omega) O11
 have r11 := r9.aM (O11 0 (by omega))
 have ri11 := ri9.aM (O11 n6 (by omega))
 have rj11 := rj9.aM (O11 n8 (by omega))
 have ba11 := ba.aM (h' := H11) fun j q => p11 j (by have := ia j q; omega)
 simp only [fgr, gE]
 rw [aE (r11.eF gG rfl (bM hh))]
 simp only [hkr, gE]
 refine aQ f11 (f15 c11 aI pn z hh (by omega) (by omega) f11) fun v12 h12 n12 hn12 f12 ⟨o12, sb, e12, okb, bb, ib⟩ => ?_
 subst e12
 rw [pc1, hcv] at okb bb
 have kb := bb.kind
 simp only [g5, pc1, pc2, hcv, gE]
 rw [bU cY rfl]
 simp only [cel, gE]
 refine cK (v := .agg (aK cv sb)) cY rfl (aZ okb.h okb.b) (c8 kb.2.1) f12 fun H13 rb13 p13 f13 => ?_
 replace rb13 : Row H13 n12 (aK cv sb) := rb13
 have O13 : Old H11 H13 (n10 + 1) := fun j hj => by rw [p13 j (by omega), o12 j hj]
 have s13 := s11.old (n' := n12 + 1) (by omega) O13
 have c13 := c11.old (n' := n12 + 1) (by omega) O13
 have r13 := r11.aM (O13 0 (by omega))
 have ri13 := ri11.aM (O13 n6 (by omega))
 have rj13 := rj11.aM (O13 n8 (by omega))
 have ra13 := ra11.aM (O13 n10 (by omega))
 have ba13 := ba11.aM (h' := H13) fun j q => O13 j (by have := ia j q; omega)
 have bb13 := bb.aM (h' := H13) fun j q => p13 j (by have := ib j q; omega)
 simp only [fgr, hkr, gE]
 refine aQ f13 (f60 s13 v2 l2 z (hv2.bytes _) (fun j q => by rw [JA hv2] at q; cases q) (by omega) (by omega) f13) fun v14 h14 n14 hn14 f14 ⟨e14, o14⟩ => ?_
 subst e14
 have s14 := s13.old hn14 o14
 have c14 := c13.old hn14 o14
 simp only [fgr, hkr, g0, gE]
 refine aQ f14 (f60 c14 v2 l2 z (hv2.bytes _) (fun j q => by rw [JA hv2] at q; cases q) (by omega) (by omega) f14) fun v15 h15 n15 hn15 f15 ⟨e15, o15⟩ => ?_
 subst e15
 have s15 := s14.old hn15 o15
 have c15 := c14.old hn15 o15
 simp only [fgr, hkr, g5, Pb, gE]
 refine aQ f15 (f17 s15 1000 z (by omega) (by omega) hval f15) fun v16 h16 n16 hn16 f16 ⟨o16, ua, e16, la⟩ => ?_
 subst e16
 have s16 := s15.old hn16 o16
 have c16 := c15.old hn16 o16
 simp only [fgr, hkr, g0, gE]
 refine aQ f16 (f17 c16 1000 z (by omega) (by omega) hval5 f16) fun v17 h17 n17 hn17 f17 ⟨o17, ub, e17, lb⟩ => ?_
 subst e17
 rw [Pr] at lb
 have s17 := s16.old hn17 o17
 have c17 := c16.old hn17 o17
 have O17 : Old H13 h17 (n12 + 1) := fun j hj => by rw [o17 j (by omega), o16 j (by omega), o15 j (by omega), o14 j hj]
 have r17 := r13.aM (O17 0 (by omega))
 simp only [fgr, g5, gE]
 rw [aE (r17.eF gG rfl (bM hh))]
 simp only [hkr, gE]
 refine aQ f17 (f21 s17 aI pn z hh (by omega) (by omega) f17) fun v18 h18 n18 hn18 f18' ⟨o18, ta, e18, lt⟩ => ?_
 subst e18
 have s18 := s17.old hn18 o18
 have c18 := c17.old hn18 o18
 have r18 := r17.aM (o18 0 (by omega))
 simp only [fgr, g0, gE]
 rw [aE (r18.eF gG rfl (bM hh))]
 simp only [hkr, gE]
 refine aQ f18' (f21 c18 aI pn z hh (by omega) (by omega) f18') fun v19 h19 n19 hn19 f19 ⟨o19, tb, e19, lu⟩ => ?_
 subst e19
 rw [Pt] at lu
 have s19 := s18.old hn19 o19
 have c19 := c18.old hn19 o19
 have O19 : Old H13 h19 (n12 + 1) := fun j hj => by rw [o19 j (by omega), o18 j (by omega), O17 j hj]
 have ri19 := ri13.aM (O19 n6 (by omega))
 have rj19 := rj13.aM (O19 n8 (by omega))
 have ra19 := ra13.aM (O19 n10 (by omega))
 have rb19 := rb13.aM (O19 n12 (by omega))
 have ba19 := ba13.aM (h' := h19) fun j q => O19 j (by have := ia j q; omega)
 have bb19 := bb13.aM (h' := h19) fun j q => O19 j (by have := ib j q; omega)
 have la19 : RiL h19 n15 n16 ua (p8 L I 1000 z) := la.aM fun j q1 q2 => by rw [o19 j (by omega), o18 j (by omega), o17 j (by omega)]
 have lb19 : RiL h19 n16 n17 ub (p8 L I 1000 z) := lb.aM fun j q1 q2 => by rw [o19 j (by omega), o18 j (by omega)]
 have lt19 : VL h19 n17 n18 ta (jU L I aI pn z) := lt.aM fun j q1 q2 => o19 j q2
 simp only [fgr, bor, bE, g5, gE]
 rw [aE (ri19.eF fQ rfl (bQ ob))]
 simp only [gE]
 rw [aE (rj19.eF fQ rfl (bQ ob))]
 simp only [bor, bE, VD i0 i0 ob ob, EO, gE]
 simp only [tyr, bL, gK, bE, bS, equal, gN, eN, eO, gE]
 rw [aE (dO ra19 oka)]
 simp only [gE]
 rw [aE (dO rb19 okb)]
 simp only [hkr, gE]
 refine aQ f19 (f42 cv cv sa sb oka okb h19 _ ba19 bb19 (fun j q => by have := ia j q; omega) (fun j q => by have := ib j q; omega) f19) fun v20 h20 n20 hn20 f20 ⟨e20, o20⟩ => ?_
 rw [AW] at e20
 subst e20
 have s20 := s19.old hn20 o20
 have c20 := c19.old hn20 o20
 have la20 := la19.aM (h' := h20) fun j q1 q2 => o20 j (by omega)
 have lb20 := lb19.aM (h' := h20) fun j q1 q2 => o20 j (by omega)
 have lt20 := lt19.old (by omega) o20
 have lu20 := lu.old (by omega) o20
 have rlen : (p8 L I 1000 z).length ≤ 100000 := by
  unfold p8
  rw [ei0]
  exact Nat.le_trans (DL _ _) (by decide)
 have tlen : (jU L I aI pn z).length ≤ 10000000 := by
  unfold jU
  rw [ei0]
  exact Nat.le_trans (uW _ _) (Nat.le_trans (List.length_filter_le _ _) (by omega))
 simp only [hkr, bor, bE, gE]
 refine dA (f18 ua ub _ _ _ _ _ h20 n20 rlen la20 lb20) ?_
 simp only [hkr, bE, gE]
 refine aQ f20 (DZ lt20 lu20 (by omega) (by omega) tlen f20) fun v21 h21 n21 hn21 f21 ⟨e21, o21⟩ => ?_
 rw [yH] at e21
 subst e21
 have s21 := s20.old hn21 o21
 have c21 := c20.old hn21 o21
 simp only [hkr, bE, gE]
 refine aQ f21 (f24 c21 (by omega) f21) fun v22 h22 n22 hn22 f22 ⟨l22, o22⟩ => ?_
 have s22 := s21.old hn22 o22
 simp only [hkr, gE]
 refine aQ f22 (f61 s22 z z0 ei0 (by omega) (by omega) f22) fun v23 h23 n23 hn23 f23 ⟨l23, o23⟩ => ?_
 rw [hL5] at l23
 have l22' := l22.old (by omega) o23
 simp only [hkr, gE]
 refine aQ f23 (DZ l22' l23 (by omega) (by omega) (by omega) f23) fun v24 h24 n24 hn24 f24 ⟨e24, o24⟩ => ?_
 rw [yH] at e24
 subst e24
 simp only [fgr, bE, gE]
end Go.Am.Ytlgebaofkolkoaa
