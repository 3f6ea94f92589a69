/- What the statement reaches, gone through; and the abstract machine that goes through it. -/
import Derived.Test.YtlgebaofkolkoaaGE
set_option linter.unusedSimpArgs false
set_option linter.unusedVariables false
set_option linter.defProp false
set_option maxRecDepth 10000
namespace Go.Am.Ytlgebaofkolkoaa
open Go Go.Am Go.Proofs
theorem NI (L : List Ver) (p k : Nat) : (mQ L p k).length ≤ L.length := by
  unfold mQ
  rw [List.length_drop, List.length_take]; omega
structure P49 (H7 : Hp) (n : Nat) (L : List Ver) (hash : List UInt8) (pn : Int) (lo : kI) (nS k : Nat) (h1 : Hp) (n1 : Nat) : Prop where
  fr : bO h1 n1
  n7 : n + 1 + 1 + 1 + 1 + 1 ≤ nS
  ns : nS ≤ n1
  kp : ∀ j, j < n + 1 + 1 + 1 + 1 + 1 → j ≠ n + 1 → j ≠ n + 1 + 1 + 1 + 1 → h1 j = H7 j
  lp : h1 (n + 1 + 1 + 1 + 1) = some (.loop lo)
  cl : ∃ acc cells, h1 (n + 1) = some (.row (.l [acc]) 43) ∧ Lst h1 31 70 acc (mQ L (pos false L (key hash pn 0)) k).length cells ∧ Vs h1 (fun j => nS ≤ j ∧ j < n1 ∧ bB acc ≠ some j) cells (mQ L (pos false L (key hash pn 0)) k) ∧ ∀ j, bB acc = some j → nS ≤ j
  sm : ∀ i (hi : i < L.length), pos false L (key hash pn 0) ≤ i → i < k → same hash pn L[i] = true
set_option maxHeartbeats 4000000 in
theorem f49 (x : Nat) (hash : List UInt8) (pn : Int) (hl : hash.length = 32) (L : List Ver) (D M : Nat → Prop) (h : Hp) (n : Nat) (hs : Ix h n D M x L) (hc : L.length ≤ 1000000) (hf : bO h n) :
    Wp (bD env (evalW env) 49 [.ptr x 0, .agg (aY hash pn)]) h n fun v' h' n' => Old h h' n ∧ ∃ k, pos false L (key hash pn 0) ≤ k ∧ (∀ i (hi : i < L.length), pos false L (key hash pn 0) ≤ i → i < k → same hash pn L[i] = true) ∧ (∀ hk : k < L.length, same hash pn L[k] = false) ∧ VL h' n n' v' (mQ L (pos false L (key hash pn 0)) k) := by
  obtain ⟨⟨S, s0, rS, perm⟩, rL, ok⟩ := hs
  obtain ⟨vl, vs, xl, xs, iv, mx, ml, ms, mn⟩ := s0
  refine bL ff49 fi49 ?_
  simp only [V2, Try.f49, Option.getD_some, List.replicate, aC, execOp, opd, nth, ended, aT, aU, Nat.reduceAdd, Nat.reduceSub, gL, gI]
  refine dA (v := .agg (aY hash pn)) iK rfl hf fun H1 r1 o1 f1 => ?_
  replace r1 : Row H1 n (aY hash pn) := r1
  simp only [aC, fgr, execOp, opd, ofValue, aD, put, aB]
  rw [cD oC rfl]
  obtain ⟨H2, hH2⟩ : ∃ H2, H2 = upd H1 (n + 1) (some (Blk.row (bQ.l [a9.aV]) 43)) := ⟨_, rfl⟩
  show Ops env 49 none _ _ _ _ _ (upd H1 (n + 1) (some (Blk.row (bQ.l [a9.aV]) 43))) _
  rw [← hH2]
  have f2 : bO H2 (n + 1 + 1) := by rw [hH2]; exact f1.new
  have o2 : ∀ j, j ≠ n + 1 → H2 j = H1 j := fun j hj => by rw [hH2, aP _ _ hj]
  have r2 : H2 (n + 1) = some (Blk.row (bQ.l [a9.aV]) 43) := by rw [hH2, aW]
  clear hH2
  have r1' : Row H2 n (aY hash pn) := r1.aX (o2 n (by omega))
  simp only [aC, fgr, execOp, opd, aD, put, nth, aB]
  rw [aM (show Rd (load env 28 (.ptr n 0)) _ _ [n] (.agg (aY hash pn)) from Row.whole r1' iK rfl (cA hl))]
  simp only [aC, hkr, execOp, opd, bG, aD, put, nth, aL, aE, gL]
  refine eL (f81 x hash pn _ _) ?_
  simp only [aC, fgr, aD, put, aB]
  refine kW (g := 106) (first := []) (cap := [.ptr (n + 1 + 1) 0, .ptr (n + 1 + 1 + 1) 0]) rfl rfl ?_
  let TM : List a9 := (.ptr x 0 :: .agg (aY hash pn) :: a9.aA :: .ptr n 0 :: .aV :: .ptr (n + 1) 0 :: undef :: a9.aA :: a9.aA :: .fn (.func 106) [] [.ptr (n + 1 + 1) 0, .ptr (n + 1 + 1 + 1) 0] :: undef :: a9.aA :: a9.aA :: a9.aA :: a9.aA :: a9.aA :: a9.aA :: a9.aA :: a9.aA :: [])
  obtain ⟨H6, hH6⟩ : ∃ H6, H6 = upd (upd (upd H2 (n + 1 + 1) (some (Blk.row (bQ.l [a9.ptr x 0]) 56))) (n + 1 + 1 + 1) (some (Blk.row (bQ.l (aY hash pn)) 28))) (n + 1 + 1 + 1 + 1) (some (Blk.loop (L49 TM))) := ⟨_, rfl⟩
  show Wp (c9 env (evalW env) 106 [a9.fn (Fn.yield (n + 1 + 1 + 1 + 1)) [] [], a9.ptr (n + 1 + 1) 0, a9.ptr (n + 1 + 1 + 1) 0]) (upd (upd (upd H2 (n + 1 + 1) (some (Blk.row (bQ.l [a9.ptr x 0]) 56))) (n + 1 + 1 + 1) (some (Blk.row (bQ.l (aY hash pn)) 28))) (n + 1 + 1 + 1 + 1) (some (Blk.loop (L49 TM)))) _ _
  rw [KL, ← hH6]
  have f6 : bO H6 (n + 1 + 1 + 1 + 1 + 1) := by rw [hH6]; exact f2.new.new.new
  have old6 : Old h H6 n := fun j hj => by rw [hH6, aP _ _ (by omega), aP _ _ (by omega), aP _ _ (by omega), o2 j (by omega), o1 j (by omega)]
  have g3 : H6 (n + 1) = some (Blk.row (bQ.l [a9.aV]) 43) := by rw [hH6, aP _ _ (by omega), aP _ _ (by omega), aP _ _ (by omega)]; exact r2
  have g4 : Row H6 (n + 1 + 1) [.ptr x 0] := by rw [hH6]; exact ((Row.new _ _ _ _).upd (by omega)).upd (by omega)
  have g5 : Row H6 (n + 1 + 1 + 1) (aY hash pn) := by rw [hH6]; exact (Row.new _ _ _ _).upd (by omega)
  have g6 : H6 (n + 1 + 1 + 1 + 1) = some (.loop (L49 TM)) := by rw [hH6, aW]
  clear hH6
  have iv6 : IxV H6 (n + 1 + 1 + 1 + 1 + 1) D x vl vs xl xs L S :=
    ⟨iv.row.aX (old6 x iv.xn), iv.l.aX (fun j q => old6 j (mn j (ml j q)).1), iv.lp.mono (fun j q => q) (fun j q => old6 j (iv.dn j q)), iv.s.aX (fun j q => old6 j (mn j (ms j q)).1), iv.sp.mono (fun j q => q) (fun j q => old6 j (iv.dn j q)), by have := iv.xn; omega, fun j q => by have := iv.dn j q; omega, iv.xd, iv.vlx, iv.vsx⟩
  have lt : ∀ (j : Nat), j < n → ∀ (h1 : Hp), (∀ j, j < n + 1 + 1 + 1 + 1 + 1 → j ≠ n + 1 → j ≠ n + 1 + 1 + 1 + 1 → h1 j = H6 j) → h1 j = H6 j := fun j hj h1 hk => hk j (by omega) (by omega) (by omega)
  refine wp_mono ((f106 (.fn (.yield (n + 1 + 1 + 1 + 1)) [] []) (n + 1 + 1) (n + 1 + 1 + 1) x hash pn hl L S D (P49 H6 n L hash pn (L49 TM)) (fun _ _ _ => False) vl vs xl xs H6 (n + 1 + 1 + 1 + 1 + 1) iv6 (fun j q => by have := (mn j (ml j q)).1; omega) rL hc ⟨rfl, rfl, rfl⟩ g4 g5 (by omega) (by omega) f6 ?_ ?_ ?_ (fun _ _ _ _ _ _ _ q => q) ?_).free f6) ?_
  · intro nS k h1 n1 p
    exact ⟨iv6.l.rds.aX (fun j q => lt j (mn j (ml j q)).1 h1 p.kp), iv6.lp.mono (fun j q => q) (fun j q => lt j (iv.dn j q) h1 p.kp), p.fr⟩
  · intro h' nS hn' hf' ho'
    exact ⟨hf', by omega, Nat.le_refl _, fun j hj _ _ => ho' j hj, (ho' _ (by omega)).trans g6, ⟨.aV, [], (ho' _ (by omega)).trans g3, by rw [JE]; exact .nil, by rw [JE]; exact Vs.nil _ _, fun j q => by cases q⟩, fun i hi h1 h2 => by omega⟩
  · intro nS k h1 n1 i b hi hns p
    obtain ⟨acc, cells, c1, c2, c3, c4⟩ := p.cl
    have hn7 := p.n7
    exact ⟨p.fr.upd (by have := p.ns; omega), p.n7, p.ns, fun j hj h1' h2' => by rw [aP _ _ (by omega)]; exact p.kp j hj h1' h2', by rw [aP _ _ (by omega)]; exact p.lp, ⟨acc, cells, by rw [aP _ _ (by omega)]; exact c1, c2.aX fun j q => aP _ _ (by have := c4 j q; omega), c3.mono (fun j q => q) (fun j q => aP _ _ (by omega)), c4⟩, p.sm⟩
  · intro nS k hk id sv h1 n1 hnS hpk p a d1 d2 hsm
    have hidn := iv.dn id d1
    refine mK p.lp rfl rfl ?_
    simp only [J0, List.getD_cons_zero, lJ, List.zip_cons_cons, List.zip_nil_left, L49, TM, cQ, Try.f49, Option.getD_some, aC, fgr, execOp, opd, aD, put, nth, aB, gL, gB]
    refine ⟨_, p.lp, rfl, ?_⟩
    obtain ⟨h2, hh2⟩ : ∃ h2, h2 = upd h1 (n + 1 + 1 + 1 + 1) (some (Blk.loop { L49 TM with state := .busy })) := ⟨_, rfl⟩
    have ho2 : ∀ j, j ≠ n + 1 + 1 + 1 + 1 → h2 j = h1 j := fun j hj => by rw [hh2, aP _ _ hj]
    have hlo2 : h2 (n + 1 + 1 + 1 + 1) = some (.loop { L49 TM with state := .busy }) := by rw [hh2, aW]
    have hns := p.ns
    have h77 := p.n7
    have hf2 : bO h2 n1 := by rw [hh2]; exact p.fr.upd (by omega)
    show Run env 49 _ _ _ _ _ (upd h1 (n + 1 + 1 + 1 + 1) (some (Blk.loop { L49 TM with state := .busy }))) n1
    rw [← hh2]
    clear hh2
    have a2 : At h2 id sv L[k] := a.aX (ho2 id (by omega)) (fun j q => ho2 j (by have := iv.dn j (d2 j q); omega))
    obtain ⟨acc, cells, q1, q2, q3, q4⟩ := p.cl
    have sm' : ∀ i (hi : i < L.length), pos false L (key hash pn 0) ≤ i → i < k + 1 → same hash pn L[i] = true := fun i hi h1' h2' => by
      by_cases q : i = k
      · subst q; exact hsm
      · exact p.sm i hi h1' (by omega)
    have cell : Row h2 (n + 1) [acc] := ⟨_, (ho2 _ (by omega)).trans q1⟩
    have q2' := q2.aX (h' := h2) fun j q => ho2 j (by have := q4 j q; omega)
    simp only [IV, List.getD_cons_zero, cQ, Try.f49, Option.getD_some, aC, fgr, List.nil_append, List.append_nil]
    refine cG ⟨rfl, ?_⟩
    simp only [aF, execOp, opd, nth]
    rw [bP (cell.one (off := 0) rfl oC rfl)]
    simp only [aF, aI, execOp, opd, aD, put, nth, nilCheck, Nat.reduceAdd, gI]
    rw [bP (eN a2.row a2.ok)]
    simp only [aF, hkr, execOp, opd, bG, aD, put, nth, aL, aE, Nat.reduceAdd, gL]
    have fo2 : bO (only (fun j => decide (bB sv = some j)) h2) n1 := hf2.only
    refine wC (fun j => decide (bB sv = some j)) hf2 (f77 L[k] sv a2.ok (only (fun j => decide (bB sv = some j)) h2) n1 (a2.s.aX fun j q => gY (decide_eq_true q)) (fun j q => by have := iv.dn j (d2 j q); omega) (ok _ (List.getElem_mem hk)).2 fo2) fun v9 h9 n9 r9 w9 hr9 hn9 f9 ⟨s', e9, b9, i9, o9⟩ hin hout hr hw => ?_
    subst e9
    have old9 : Old h2 h9 n1 := fun j hj => by
      by_cases q : bB sv = some j
      · rw [hin j (.inl (decide_eq_true q)), o9 j hj, gY (decide_eq_true q)]
      · exact hout j hj (decide_eq_false q)
    have b9' : Bytes h9 s' L[k].aR := b9.aX (fun j q => hin j (.inr (i9 j q).1))
    simp only [aF, execOp, opd, dE, aD, put, nth, Nat.reduceAdd, HR (bM a2.ok.h a2.ok.b)]
    refine jI dY f9 fun H10 r10 o10 f10 => ?_
    simp only [aF, execOp, opd, bG, aD, put, nth, aL, builtin, fC, Nat.reduceAdd]
    have old10 : Old h2 H10 n1 := fun j hj => by rw [o10 j (by omega), old9 j hj]
    have accl : ∀ j, bB acc = some j → j < n1 := fun j q => q2.live p.fr q
    have q2'' := q2'.aX (h' := H10) fun j q => old10 j (accl j q)
    have tl := NI L (pos false L (key hash pn 0)) k
    refine eF f10 (mA (i := fG.i) (e := 31) (Q1 := fun v' h' n' => n9 + 1 ≤ n' ∧ bO h' n' ∧ Lst h' 31 70 v' ((mQ L (pos false L (key hash pn 0)) k).length + 1) (cells ++ aO L[k] s') ∧ (bB v' = bB acc ∨ bB v' = some (n9 + 1) ∧ n9 + 1 < n') ∧ ∀ j, j < n9 + 1 → bB acc ≠ some j → h' j = H10 j) q2'' (nE (cnt := 1) r10 (by rw [bM a2.ok.h a2.ok.b]; rfl)) u43 u43 dY (cL b9.kind.2.1) (by decide) (by show 2 * (_ + 1) * 128 ≤ _; omega) (by omega) f10 (fun v' h' n' a b c d e => ⟨a, b, c, d, e⟩)) fun v11 h11 n11 r11 w11 hn11 f11 ⟨_, _, l11, i11, o11⟩ => ?_
    have o111 : ∀ j, j < n1 → bB acc ≠ some j → j ≠ n + 1 + 1 + 1 + 1 → h11 j = h1 j := fun j a b c => by rw [o11 j (by omega) b, old10 j a, ho2 j c]
    have accne : ∀ j, j < nS → bB acc ≠ some j := fun j hj q => by have := q4 j q; omega
    have c11 : h11 (n + 1) = some (Blk.row (bQ.l [acc]) 43) := (o111 _ (by omega) (accne _ (by omega)) (by omega)).trans q1
    have l11n : ∀ j, j < n9 + 1 → bB acc ≠ some j → bB v11 ≠ some j := fun j hj hn q => by
      rcases i11 with w | ⟨w, _⟩
      · rw [w] at q; exact hn q
      · rw [w] at q; injection q with q; omega
    have nw : n + 1 ∉ w9 := fun q => by have := iv.dn _ (d2 _ (of_decide_eq_true (hw _ q))); omega
    have nr : n + 1 ∉ r9 := fun q => by have := iv.dn _ (d2 _ (of_decide_eq_true (hr _ q))); omega
    have v11k := l11.rds.kind
    have v11n : ∀ j, bB v11 = some j → nS ≤ j := fun j q => by
      rcases i11 with w | ⟨w, _⟩
      · rw [w] at q; exact q4 j q
      · rw [w] at q; injection q with q; omega
    simp only [aF, execOp, opd, aD, put, nth, Nat.reduceAdd]
    refine jH (Row.write (v := v11) c11 oC (by rw [v11k.1]; rfl) (by show 0 + 1 ≤ 1; omega) (by rw [v11k.1]; simp [v11k.2.1])) ?_
    rw [v11k.1, show cB [acc] 0 [v11] = [v11] from rfl]
    simp only [bY, aC, fgr, aD, aB, Nat.reduceAdd]
    have hlo11 : upd h11 (n + 1) (some (Blk.row (bQ.l [v11]) 43)) (n + 1 + 1 + 1 + 1) = some (.loop { L49 TM with state := .busy }) := by
      rw [aP _ _ (by omega), o11 _ (by omega) (accne _ (by omega)), old10 _ (by omega)]
      exact hlo2
    refine ⟨(by (try simp (disch := first | assumption | omega) only [dF, List.all_cons, List.all_nil, gB, gF]); repeat' (first | rfl | exact (Bool.or_eq_true _ _).mpr (.inr rfl) | refine (Bool.and_eq_true _ _).mpr ⟨?_, ?_⟩)), _, hlo11, .inl ⟨.inl rfl, ⟨(f11.upd (by omega)).upd (by omega), h77, by omega, fun j hj h1' h2' => ?_, aW _ _ _, ⟨v11, cells ++ aO L[k] s', by rw [aP _ _ (by omega), aW], ?_, ?_, v11n⟩, sm'⟩⟩, fun j hj hjn => ?_, ?_⟩
    · rw [aP _ _ h2', aP _ _ h1', o111 j (by omega) (accne j (by omega)) h2']; exact p.kp j hj h1' h2'
    · rw [JD hpk hk, List.length_append]
      exact l11.aX (fun j q => by rw [aP _ _ (by have := v11n j q; omega), aP _ _ (by have := v11n j q; omega)])
    · rw [JD hpk hk]
      have ne2 : ∀ j, nS ≤ j → ∀ (H : Hp) b b2, upd (upd H (n + 1) b) (n + 1 + 1 + 1 + 1) b2 j = H j := fun j hj H b b2 => by rw [aP _ _ (by omega), aP _ _ (by omega)]
      refine (q3.mono (fun j q => ⟨q.1, by omega, l11n j (by omega) q.2.2⟩) (fun j q => by rw [ne2 j q.1, o111 j q.2.1 q.2.2 (by omega)])).snoc (b9'.aX fun j q => ?_) a2.ok (fun j q => ⟨by have := i9 j q; omega, by have := i9 j q; omega, l11n j (by have := i9 j q; omega) (fun w => by have := accl j w; have := i9 j q; omega)⟩)
      rw [ne2 j (by have := i9 j q; omega), o11 j (by have := i9 j q; omega) (fun w => by have := accl j w; have := i9 j q; omega), o10 j (by have := i9 j q; omega)]
    · rw [aP _ _ (by omega), aP _ _ (by omega), o111 j (by omega) (accne j hjn) (by omega)]
    · rw [aP _ _ (by omega), aP _ _ (by omega), o111 _ (by omega) (accne _ (by omega)) (by omega)]
  · rintro v5 h5 n5 ⟨⟨e5, nS, hnS, hh⟩, hn5, f5⟩
    rcases hh with ⟨k, hk1, p, hk3⟩ | hr
    · refine ⟨_, p.lp, (fun q => by cases q), .normal, rfl, ?_⟩
      obtain ⟨acc, cells, c1, c2, c3, c4⟩ := p.cl
      have hns := p.ns
      have h7 := p.n7
      simp only [aC, execOp, opd, nth]
      have hrow : Row (upd h5 (n + 1 + 1 + 1 + 1) (some (.loop { L49 TM with state := .exhausted }))) (n + 1) [acc] := ⟨_, (aP _ _ (by omega)).trans c1⟩
      rw [aM (hrow.one (off := 0) rfl oC rfl)]
      simp only [aC, fgr, execOp, opd, aD, put, nth, aB, gB]
      refine ⟨fun j hj => ?_, k, hk1, p.sm, hk3, cells, c2.aX (fun j q => aP _ _ (by have := c4 j q; omega)), c3.mono (fun j q => ⟨by omega, q.2.1, q.2.2⟩) (fun j q => aP _ _ (by omega)), fun j q => ⟨by have := c4 j q; omega, c2.live p.fr q⟩⟩
      rw [aP _ _ (by omega), lt j hj h5 p.kp, old6 j hj]
    · exact hr.elim
def vV (L : List Ver) (hash : List UInt8) (pn : Int) : List Ver := L.filter (same hash pn)
theorem f49k {K : Nat → Prop} {x : Nat} (hash : List UInt8) (pn : Int) (hl : hash.length = 32) {L : List Ver} {h : Hp} {n : Nat} (hs : Ixk K h n x L) (hc : L.length ≤ 900000) (hf : bO h n) :
    Wp (bD env (evalW env) 49 [.ptr x 0, .agg (aY hash pn)]) h n fun v' h' n' => VL h' n n' v' (vV L hash pn) ∧ Old h h' n := by
  have rL := hs.rL
  obtain ⟨⟨D, M, i, q⟩, g⟩ := hs
  refine wp_mono (f49 x hash pn hl L D M h n i (by omega) hf) fun v' h' n' ⟨o, k, hk, sm, ne, v⟩ => ⟨?_, o⟩
  have e := MQ rL g hk sm ne (fun _ => true)
  rw [List.filter_eq_self.2 fun _ _ => rfl] at e
  have e2 : mQ L (pos false L (key hash pn 0)) k = vV L hash pn := by
    unfold mQ vV
    rw [e]
    congr 1
    funext v
    rw [Bool.and_true]
  rwa [e2] at v
structure MU (h : Hp) (n : Nat) (N : a9) : Prop where
  k : N = .eZ ∨ ∃ x, N = .ptr x 0
  f : ∀ h' n', Old h h' n → Wp (bD env (evalW env) 73 [N]) h' n' fun v a b => v = .bool true ∧ a = h' ∧ b = n'
theorem MU.old {h h' : Hp} {n n' : Nat} {N : a9} (q : MU h n N) (hn : n ≤ n') (ho : Old h h' n) : MU h' n' N := ⟨q.k, fun h2 n2 o => q.f h2 n2 fun j hj => by rw [o j (by omega), ho j hj]⟩
theorem MU.kind {h : Hp} {n : Nat} {N : a9} (q : MU h n N) : N.cells = [N] ∧ bN N = true ∧ eD N = false := by
  rcases q.k with e | ⟨x, e⟩ <;> subst e <;> exact ⟨rfl, rfl, rfl⟩
def nv (pn made value bZ : Int) (s : List UInt8) : Ver := ⟨z0, pn, made, value, s, false, bZ, z0⟩
def a4 : Ver := nv 3 4 0 4 []
def a6 : Ver := nv 3 6 2 0 []
def b1v : Ver := nv 1 0 0 0 [98]
def L3 : List Ver := [b1v, a4, a6]
theorem BL.get {h : Hp} {a b : Nat} {v : a9} {ls : List (List UInt8)} (l : BL h a b v ls) {i : Nat} {z : Int} (hz : z = (i : Nat)) (hi : i < ls.length) : ∃ x, (∀ h' n', Rd (indexAddr env 81 v (.int .i64 z)) h' n' [] (addrOf (i * 1) v)) ∧ (∀ n, Rd (load env 29 (addrOf (i * 1) v)) h n (rid v) x) ∧ Bytes h x ls[i] := by
  subst hz
  obtain ⟨x, e, bs, d⟩ := l.at_ hi
  exact ⟨x, fun h' n' => l.idx hi, e, bs⟩
abbrev Pt := List UInt8 × Int
def ptA (p : Pt) : a9 := .agg (aY p.1 p.2)
theorem CU {a b : UInt8} (h : u8 a = u8 b) : a = b := by
  unfold u8 at h
  injection h with h1 h2
  exact UInt8.toNat_inj.1 (by omega)
theorem lM : ∀ {a b : List UInt8}, a.map u8 = b.map u8 → a = b
  | [], [], _ => rfl
  | [], _ :: _, h => by cases h
  | _ :: _, [], h => by cases h
  | x :: a, y :: b, h => by
    simp only [List.map_cons, List.cons.injEq] at h
    rw [CU h.1, lM h.2]
theorem rM {p q : Pt} (h : ptA p = ptA q) : p = q := by
  unfold ptA aY at h
  injection h with h
  obtain ⟨h1, h2⟩ := List.append_inj' h rfl
  injection h2 with h2
  injection h2 with _ h2
  exact Prod.ext (lM h1) h2
noncomputable def isK (k a : a9) : Bool := @decide (a = k) (Classical.propDecidable _)
theorem m5 {k a : a9} : isK k a = true ↔ a = k := by unfold isK; exact @decide_eq_true_iff _ (Classical.propDecidable _)
theorem vT {k a : a9} (h : a ≠ k) : isK k a = false := by
  cases e : isK k a with
  | false => rfl
  | true => exact absurd (m5.1 e) h
theorem uT (p q : Pt) (l1 : p.1.length = 32) (l2 : q.1.length = 32) : bJ env 28 (ptA p) (ptA q) = M.pure (isK (ptA p) (ptA q)) := by
  have e : bJ env 28 (ptA p) (ptA q) = M.pure (decide (p.1 = q.1) && (p.2 == q.2)) := OW 97 p.1 q.1 p.2 q.2 l1 l2
  rw [e]
  congr 1
  by_cases c : p = q
  · subst c
    rw [m5.2 rfl]; simp
  · rw [vT fun w => c (rM w).symm]
    by_cases d : p.1 = q.1
    · rw [decide_eq_true d, Bool.true_and, beq_eq_false_iff_ne]
      exact fun w => c (Prod.ext d w)
    · rw [decide_eq_false d]; rfl
theorem K9 (d : Nat) (x : UInt8) : iZ env (d + 1) 5 (u8 x) = M.pure () := by
  simp only [iZ, und, ti5, bind_pure]
theorem nB {α : Type} {f : α → M Unit} : ∀ (l : List α), (∀ x ∈ l, f x = M.pure ()) → AM f l = M.pure ()
  | [], _ => rfl
  | x :: l, h => by simp only [AM, h x (List.mem_cons_self ..), bind_pure, nB l fun y hy => h y (List.mem_cons_of_mem _ hy)]
theorem DP (d : Nat) (a : List UInt8) (ha : a.length = 32) : iZ env (d + 1 + 1) 25 (.agg (a.map u8)) = M.pure () := by
  rw [iZ]
  simp only [und, mM, bind_pure, dU, sizeOf, ti5]
  refine nB _ fun i hi => ?_
  have hi := List.mem_range.1 hi
  rw [Nat.mul_one, vI (by omega), bind_pure, K9]
theorem tA (p : Pt) (l1 : p.1.length = 32) : iZ env 100 28 (ptA p) = M.pure () := by
  have p0 : part env 25 (aY p.1 p.2) 0 = M.pure (.agg (p.1.map u8)) := by
    simp only [part, mM, bind_pure, eK, List.drop_zero]
    rw [show (aY p.1 p.2).take 32 = p.1.map u8 by unfold aY; rw [List.take_append_of_le_length (by simp [l1]), List.take_of_length_le (by simp [l1])]]
  have p1 : part env 26 (aY p.1 p.2) 32 = M.pure (.int .u32 p.2) := by
    simp only [part, oD, bind_pure, eK, iC l1, aZ]
  have p2 : iZ env (97 + 1 + 1) 26 (.int .u32 p.2) = M.pure () := by
    rw [iZ]; simp only [und, oD, bind_pure]
  unfold ptA
  show iZ env (97 + 1 + 1 + 1) 28 (.agg (aY p.1 p.2)) = M.pure ()
  rw [iZ]
  simp only [und, iK, bind_pure, dU]
  simp only [AM, show decide ("Tx" = "_") = false from rfl, show decide ("N" = "_") = false from rfl, p0, p1, bind_pure, DP 97 p.1 l1, p2]
def kD (q : List Pt) (p : Pt) : Nat := q.countP fun x => decide (x = p)
theorem vH (q : List Pt) (p x : Pt) : kD (q ++ [p]) x = kD q x + if p = x then 1 else 0 := by
  unfold kD
  rw [List.countP_append, List.countP_singleton]
  congr 1
  by_cases c : p = x <;> simp [c]
theorem NH (q : List Pt) (p : Pt) : kD q p ≤ q.length := List.countP_le_length
def jM (q dd : List Pt) : List (a9 × a9) := dd.map fun p => (ptA p, .int .i64 (kD q p : Nat))
structure Pm (h : Hp) (id : Nat) (q : List Pt) : Prop where
  ex : ∃ b dd, gV h id b (jM q dd) ∧ dd.Nodup ∧ (∀ p ∈ dd, p.1.length = 32) ∧ ∀ p, p ∈ dd ↔ p ∈ q
theorem Pm.aX {h h' : Hp} {id : Nat} {q : List Pt} (m : Pm h id q) (hk : h' id = h id) : Pm h' id q := by
  obtain ⟨b, dd, a, r⟩ := m
  exact ⟨b, dd, a.aX hk, r⟩
theorem CH (q : List Pt) (p : Pt) : ∀ (dd : List Pt) (i : Nat), (p ∉ dd ∧ fN (isK (ptA p)) (jM q dd) i = none) ∨ ∃ j, j < dd.length ∧ dd[j]? = some p ∧ fN (isK (ptA p)) (jM q dd) i = some (i + j, .int .i64 (kD q p : Nat))
  | [], i => .inl ⟨List.not_mem_nil, rfl⟩
  | x :: dd, i => by
    by_cases c : x = p
    · subst c
      refine .inr ⟨0, by simp, rfl, ?_⟩
      simp only [jM, List.map_cons, fN, m5.2 rfl, Nat.add_zero, if_pos]
    · have e : fN (isK (ptA p)) (jM q (x :: dd)) i = fN (isK (ptA p)) (jM q dd) (i + 1) := by
        simp only [jM, List.map_cons, fN, vT fun w => c (rM w), Bool.false_eq_true, if_neg, not_false_eq_true]
      rcases CH q p dd (i + 1) with ⟨h1, h2⟩ | ⟨j, h1, h2, h3⟩
      · refine .inl ⟨fun w => ?_, e.trans h2⟩
        rcases List.mem_cons.1 w with w | w
        · exact c w.symm
        · exact h1 w
      · exact .inr ⟨j + 1, by simpa using h1, by simpa using h2, by rw [e, h3, Nat.add_assoc, Nat.add_comm 1 j]⟩
theorem yB {q : List Pt} {p : Pt} (h : p ∉ q) : kD q p = 0 := by
  unfold kD
  rw [List.countP_eq_zero]
  intro x hx
  simp only [decide_eq_true_eq]
  rintro rfl
  exact h hx
theorem CV : und env 161 = M.pure (.map 28 3) := rfl
theorem z3o : zeroOf env 3 = M.pure (.int .i64 0) := rfl
theorem JC {q dd : List Pt} {p : Pt} (l1 : p.1.length = 32) (hl : ∀ p ∈ dd, p.1.length = 32) : ∀ e ∈ jM q dd, bJ env 28 (ptA p) e.1 = M.pure (isK (ptA p) e.1) := fun e he => by
  obtain ⟨x, hx, rfl⟩ := List.mem_map.1 he
  exact uT p x l1 (hl x hx)
theorem Pm.lookup {h : Hp} {n id : Nat} {q : List Pt} (m : Pm h id q) {p : Pt} (l1 : p.1.length = 32) : Rd (j5 env 161 (.map id) (ptA p) false) h n [id] (.int .i64 (kD q p : Nat)) := by
  obtain ⟨b, dd, a, nd, hl, hm⟩ := m
  have := a.lookup (n := n) CV (tA p l1) (JC l1 hl) z3o
  rcases CH q p dd 0 with ⟨h1, h2⟩ | ⟨j, h1, h2, h3⟩
  · rw [h2] at this
    rw [yB fun w => h1 ((hm p).2 w)]
    exact this
  · rw [h3] at this
    exact this
def pcv (q : List Pt) (x : Pt) : Pt × Int := (x, ((kD q x : Nat) : Int))
theorem B6 (q dd : List Pt) : (dd.map (pcv q)).map Ins.cv = jM q dd := by
  rw [List.map_map]; rfl
theorem FB (q : List Pt) (p : Pt) : ∀ (dd : List Pt) (i : Nat), (p ∉ dd ∧ Ins.idxOf p (dd.map (pcv q)) i = none) ∨ ∃ j, j < dd.length ∧ dd[j]? = some p ∧ Ins.idxOf p (dd.map (pcv q)) i = some (i + j, ((kD q p : Nat) : Int))
  | [], i => .inl ⟨List.not_mem_nil, rfl⟩
  | x :: dd, i => by
    by_cases c : x = p
    · subst c
      exact .inr ⟨0, by simp, rfl, by simp [Ins.idxOf, pcv]⟩
    · have e : Ins.idxOf p ((x :: dd).map (pcv q)) i = Ins.idxOf p (dd.map (pcv q)) (i + 1) := by
        simp only [List.map_cons, Ins.idxOf, pcv]
        rw [if_neg c]
      rcases FB q p dd (i + 1) with ⟨h1, h2⟩ | ⟨j, h1, h2, h3⟩
      · refine .inl ⟨fun w => ?_, e.trans h2⟩
        rcases List.mem_cons.1 w with w | w
        · exact c w.symm
        · exact h1 w
      · exact .inr ⟨j + 1, by simpa using h1, by simpa using h2, by rw [e, h3, Nat.add_assoc, Nat.add_comm 1 j]⟩
theorem E8 {q dd : List Pt} {p : Pt} (nd : dd.Nodup) (hm : ∀ p, p ∈ dd ↔ p ∈ q) (hq : q.length ≤ 10000000) : ∃ dd' : List Pt, Ins.bump p (dd.map (pcv q)) = dd'.map (pcv (q ++ [p])) ∧ dd'.Nodup ∧ ∀ x, x ∈ dd' ↔ x ∈ q ++ [p] := by
  have hle := NH q p
  rcases FB q p dd 0 with ⟨h1, h2⟩ | ⟨j, h1, h2, h3⟩
  · have hnq : p ∉ q := fun w => h1 ((hm p).2 w)
    refine ⟨dd ++ [p], ?_, ?_, fun x => by rw [List.mem_append, List.mem_append, hm]⟩
    · unfold Ins.bump
      rw [h2, List.map_append]
      have e2 : dd.map (pcv (q ++ [p])) = dd.map (pcv q) := List.map_congr_left fun x hx => by
        unfold pcv
        rw [vH, if_neg (fun w => h1 (by rw [w]; exact hx))]; rfl
      rw [e2]
      simp only [List.map_cons, List.map_nil, pcv]
      rw [vH, if_pos rfl, yB hnq]; rfl
    · rw [List.nodup_append]
      exact ⟨nd, by simp, fun x hx y hy => by rw [List.mem_singleton] at hy; subst hy; exact fun w => h1 (w ▸ hx)⟩
  · rw [Nat.zero_add] at h3
    refine ⟨dd, ?_, nd, fun x => ?_⟩
    · unfold Ins.bump
      rw [h3]
      simp only
      rw [w64 (by omega) (by omega)]
      refine List.ext_getElem? fun i => ?_
      rw [List.getElem?_modify, List.getElem?_map, List.getElem?_map]
      cases ed : dd[i]? with
      | none => rfl
      | some x =>
        simp only [Option.map_some, Option.map_eq_map]
        unfold pcv
        rw [vH]
        by_cases c : j = i
        · subst c
          rw [h2] at ed
          injection ed with ed
          subst ed
          simp
        · simp only [if_neg c]
          rw [if_neg fun w => c ?_]
          · simp
          · subst w
            obtain ⟨_, e1⟩ := List.getElem?_eq_some_iff.1 h2
            obtain ⟨_, e2⟩ := List.getElem?_eq_some_iff.1 ed
            exact (List.getElem_inj nd).1 (e1.trans e2.symm)
    · rw [hm, List.mem_append, List.mem_singleton]
      constructor
      · exact fun w => .inl w
      · rintro (w | w)
        · exact w
        · subst w; exact (hm x).1 (List.mem_of_getElem? h2)
theorem EI {h : Hp} {n id x : Nat} {tm : List a9} {mm cc : Nat} {ts : List Nat} {cells : List a9} {p : Pt} {q : List Pt} {Q : gC × List a9 → Hp → Nat → Prop}
    (hm : nth tm mm undef = .map id) (hc : nth tm cc undef = .ptr x 0) (hts : ts.all (fun t => t.blt tm.length) = true) (hr : Row h x cells) (he : cells.take 33 = aY p.1 p.2) (l1 : p.1.length = 32) (m : Pm h id q) (hq : q.length ≤ 10000000)
    (hQ : ∀ H2, (∀ j, j ≠ id → H2 j = h j) → Pm H2 id (q ++ [p]) → Q (.normal, Ins.tX tm ts) H2 n) : Wp (Ins.pU mm cc ts tm) h n Q := by
  obtain ⟨b, dd, a, nd, hl, hmm⟩ := m
  obtain ⟨t, hr⟩ := hr
  obtain ⟨dd', e1, e2, e3⟩ := E8 (p := p) nd hmm hq
  have a' := a
  unfold gV at a'
  have hb : Ins.CE (.row (.l cells) t) (.map (iD b (jM q dd)) (b + (jM q dd).length)) = some (p, b, dd.map (pcv q)) := by
    have q1 : Ins.D6 (cells.take 33) = some p := by rw [he]; exact Ins.EW l1
    have q2 : b + (jM q dd).length - (iD b (jM q dd)).length = b := by rw [sF]; omega
    have q3 : Ins.nR b (iD b (jM q dd)) = some (dd.map (pcv q)) := by
      rw [← B6]
      exact Ins.sH _ _ fun x hx => by
        obtain ⟨y, hy, rfl⟩ := List.mem_map.1 hx
        exact hl y hy
    have q4 : (iD b (jM q dd)).length.ble (b + (jM q dd).length) = true := by rw [sF]; exact dC (by omega)
    unfold Ins.CE
    simp only [q1, q2, q3, q4]
  have hp : gV (upd h id (some (.map (iD b ((Ins.bump p (dd.map (pcv q))).map Ins.cv)) (b + (Ins.bump p (dd.map (pcv q))).length)))) id b (jM (q ++ [p]) dd') := by
    unfold gV
    rw [aW, e1, B6]
    simp only [jM, List.length_map]
  unfold Ins.pU
  simp only [hm, hc, hts, Nat.beq_refl, Bool.true_and, fI, hr, a', Option.some.injEq, exists_eq_left', hb, l8, wp_pure]
  refine ⟨by simp [], hQ _ (fun j hj => aP _ _ hj) ⟨b, dd', hp, e2, fun x hx => ?_, e3⟩⟩
  rcases List.mem_append.1 ((e3 x).1 hx) with w | w
  · exact hl x ((hmm x).2 w)
  · rw [List.mem_singleton] at w; subst w; exact l1
theorem Pm.clear {h : Hp} {n id : Nat} {q : List Pt} (m : Pm h id q) : ∃ h2, Wr (pD env [161] (.map id)) h n [id] [id] (a9.tup []) h2 ∧ (∀ j, j ≠ id → h2 j = h j) ∧ Pm h2 id [] := by
  obtain ⟨b, dd, a, nd, hl, hm⟩ := m
  obtain ⟨h2, w, a2, k⟩ := a.clear (n := n) (ts := []) CV
  exact ⟨h2, w, k, _, [], a2, List.nodup_nil, (fun p hp => by cases hp), (fun p => ⟨fun w => (by cases w), fun w => (by cases w)⟩)⟩
theorem Pm.new {h : Hp} {id : Nat} (e : h id = some (.map [] 0)) : Pm h id [] := ⟨0, [], e, List.nodup_nil, (fun p hp => by cases hp), (fun p => ⟨fun w => (by cases w), fun w => (by cases w)⟩)⟩
structure Spd where
  hash : List UInt8
  pn : Int
  by_ : List UInt8
def fB (s : Spd) : List a9 := aY s.hash s.pn ++ s.by_.map u8
structure Spd.Ok (s : Spd) : Prop where
  h : s.hash.length = 32
  b : s.by_.length = 32
theorem lF {s : Spd} (o : s.Ok) : (fB s).length = 65 := by simp [fB, cA o.h, o.b]
theorem qO (s : Spd) : (fB s).all bN = true := by
  unfold fB
  rw [List.all_append, qQ, List.all_map]
  simp [u8, bN]
theorem IJ {s : Spd} (o : s.Ok) : (fB s).take 33 = aY s.hash s.pn := by
  unfold fB; rw [List.take_append_of_le_length (by rw [cA o.h]; omega), List.take_of_length_le (by rw [cA o.h]; omega)]
theorem uL {h : Hp} {n id : Nat} {s : Spd} (hr : Row h id (fB s)) (o : s.Ok) : Rd (load env 28 (.ptr id 0)) h n [id] (.agg (aY s.hash s.pn)) := by
  have := hr.agg (E := env) (n := n) (off := 0) iK rfl (by rw [lF o]; decide)
  have e : ((fB s).drop 0).take 33 = aY s.hash s.pn := by unfold fB; rw [List.drop_zero, List.take_append_of_le_length (by rw [cA o.h]; omega), List.take_of_length_le (by rw [cA o.h]; omega)]
  exact e ▸ this
theorem N7 {h : Hp} {n id : Nat} {s : Spd} (hr : Row h id (fB s)) (o : s.Ok) : Rd (load env 25 (.ptr id 33)) h n [id] (.agg (s.by_.map u8)) := by
  have := hr.agg (E := env) (n := n) (off := 33) mM rfl (by rw [lF o]; decide)
  have e : ((fB s).drop 33).take 32 = s.by_.map u8 := by unfold fB; rw [← cA (pn := s.pn) o.h, List.drop_left, List.take_of_length_le (by simp [o.b])]
  exact e ▸ this
def SL (h : Hp) (a b : Nat) (v : a9) (ss : List Spd) : Prop := ∃ cells, Lst h 48 65 v ss.length cells ∧ (∀ (j : Nat) (hj : j < ss.length), (cells.drop (j * 65)).take 65 = fB ss[j] ∧ ss[j].Ok) ∧ ∀ j, bB v = some j → a ≤ j ∧ j < b
theorem SL.aX {h h' : Hp} {a b : Nat} {v : a9} {ss : List Spd} (l : SL h a b v ss) (hk : ∀ j, a ≤ j → j < b → h' j = h j) : SL h' a b v ss := by
  obtain ⟨cells, c1, c2, c3⟩ := l
  exact ⟨cells, c1.aX fun j q => hk j (c3 j q).1 (c3 j q).2, c2, c3⟩
theorem u44 : und env 44 = M.pure (.slice 48) := rfl
theorem z48s : sizeOf env 48 = M.pure 65 := rfl
theorem SL.len {h : Hp} {a b : Nat} {v : a9} {ss : List Spd} (l : SL h a b v ss) {ts : List TypeId} : cY env (44 :: ts) v = M.pure (.int .i64 (ss.length : Nat)) := by
  obtain ⟨cells, c1, c2, c3⟩ := l
  exact c1.rds.cY u44
theorem SL.idx {h : Hp} {a b : Nat} {v : a9} {ss : List Spd} (l : SL h a b v ss) {i : Nat} (hi : i < ss.length) {h' : Hp} {n' : Nat} : Rd (indexAddr env 44 v (.int .i64 ((i : Nat) : Int))) h' n' [] (addrOf (i * 65) v) := by
  obtain ⟨cells, c1, c2, c3⟩ := l
  exact c1.rds.idx u44 z48s rfl hi
theorem SL.kind {h : Hp} {a b : Nat} {v : a9} {ss : List Spd} (l : SL h a b v ss) : v.cells = [v] ∧ bN v = true ∧ eD v = false := by
  obtain ⟨cells, c1, c2, c3⟩ := l
  exact c1.rds.kind
theorem VL.kind {h : Hp} {a b : Nat} {v : a9} {ss : List Ver} (l : VL h a b v ss) : v.cells = [v] ∧ bN v = true ∧ eD v = false := by
  obtain ⟨cells, c1, c2, c3⟩ := l
  exact c1.rds.kind
theorem SL.all {h : Hp} {n a b : Nat} {v : a9} {ss : List Spd} (l : SL h a b v ss) {i : Nat} (hi : i < ss.length) : ss[i].Ok ∧ Rd (load env 48 (addrOf (i * 65) v)) h n (rid v) (.agg (fB ss[i])) := by
  obtain ⟨cells, c1, c2, c3⟩ := l
  obtain ⟨e, o⟩ := c2 i hi
  refine ⟨o, ?_⟩
  have hl : cells.length = ss.length * 65 := c1.rds.length
  have := c1.rds.agg (E := env) (n := n) (k := i * 65) xI rfl (by decide) (by show i * 65 + 65 ≤ _; omega)
  have e' : (cells.drop (i * 65)).take 65 = fB ss[i] := e
  exact e' ▸ this
structure App where
  bT : Int
  block : List UInt8
  made : List Ver
  c8 : List Spd
  eW : Int
  left : Int
def bK (A : App) (mv sv : a9) : List a9 := .int .i64 A.bT :: (A.block.map u8 ++ [mv, sv, .int .i64 A.eW, .int .i64 A.left])
structure jN (h : Hp) (a b : Nat) (A : App) (mv sv : a9) : Prop where
  m : VL h a b mv A.made
  s : SL h a b sv A.c8
  b : A.block.length = 32
  ml : A.made.length ≤ 1000000
  sl : A.c8.length ≤ 1000000
theorem jN.aX {h h' : Hp} {a b : Nat} {A : App} {mv sv : a9} (l : jN h a b A mv sv) (hk : ∀ j, a ≤ j → j < b → h' j = h j) : jN h' a b A mv sv := ⟨l.m.aX hk, l.s.aX hk, l.b, l.ml, l.sl⟩
theorem cO {A : App} {mv sv : a9} (hb : A.block.length = 32) : (bK A mv sv).length = 37 := by simp [bK, hb]
theorem nC {A : App} {mv sv : a9} (hb : A.block.length = 32) (k : Nat) : (bK A mv sv)[33 + k]? = [mv, sv, .int .i64 A.eW, .int .i64 A.left][k]? := by
  unfold bK
  rw [show 33 + k = 32 + k + 1 by omega, List.getElem?_cons_succ, List.getElem?_append_right (by simp [hb]), List.length_map, hb]
  congr 1; omega
theorem tP {h : Hp} {n id : Nat} {A : App} {mv sv : a9} (hr : Row h id (bK A mv sv)) : Rd (load env 3 (.ptr id 0)) h n [id] (.int .i64 A.bT) := hr.one rfl ti3 rfl
theorem mI {h : Hp} {n id : Nat} {A : App} {mv sv : a9} (hr : Row h id (bK A mv sv)) (hb : A.block.length = 32) : Rd (load env 43 (.ptr id 33)) h n [id] mv := hr.one (nC hb 0) oC rfl
theorem tO {h : Hp} {n id : Nat} {A : App} {mv sv : a9} (hr : Row h id (bK A mv sv)) (hb : A.block.length = 32) : Rd (load env 44 (.ptr id 34)) h n [id] sv := hr.one (nC hb 1) CW rfl
theorem AL {h : Hp} {n id : Nat} {A : App} {mv sv : a9} (hr : Row h id (bK A mv sv)) (hb : A.block.length = 32) : Rd (load env 2 (.ptr id 35)) h n [id] (.int .i64 A.eW) := hr.one (nC hb 2) ti2 rfl
theorem AK {h : Hp} {n id : Nat} {A : App} {mv sv : a9} (hr : Row h id (bK A mv sv)) (hb : A.block.length = 32) : Rd (load env 2 (.ptr id 36)) h n [id] (.int .i64 A.left) := hr.one (nC hb 3) ti2 rfl
theorem lX {h : Hp} {n id : Nat} {A : App} {mv sv : a9} (hr : Row h id (bK A mv sv)) (hb : A.block.length = 32) : Rd (load env 46 (.ptr id 0)) h n [id] (.agg (bK A mv sv)) := hr.whole lY rfl (cO hb)
theorem PF {h : Hp} {n id : Nat} {A : App} {mv sv : a9} (hr : Row h id (bK A mv sv)) (hb : A.block.length = 32) : Rd (load env 25 (.ptr id 1)) h n [id] (.agg (A.block.map u8)) := by
  have := hr.agg (E := env) (n := n) (off := 1) mM rfl (by rw [cO hb]; decide)
  have e : ((bK A mv sv).drop 1).take 32 = A.block.map u8 := by unfold bK; rw [List.drop_succ_cons, List.drop_zero, List.take_append_of_le_length (by simp [hb]), List.take_of_length_le (by simp [hb])]
  exact e ▸ this
def lL (n : Int) : Bool := decide (0 ≤ n) && decide (n ≤ 2100000000000000)
def uS (n : Int) : Bool := decide (0 ≤ n) && decide (n ≤ 1048576)
theorem f99 (z : Int) (h : Hp) (n : Nat) : Wp (bD env (evalW env) 99 [.int .i64 z]) h n fun v' h' n' => v' = .bool (uS z) ∧ h' = h ∧ n' = n := by
  refine bL ff99 fi99 ?_
  unfold uS
  by_cases c : 0 ≤ z
  · simp only [OP, Try.f99, Option.getD_some, List.replicate, aC, fgr, execOp, opd, ofValue, aD, put, nth, aB, bor, aJ, aK, intOp, bC, branch, ended, aT, aU, Nat.reduceSub, ge_iff_le, c, gL, gB, gI]
  · simp only [OP, Try.f99, Option.getD_some, List.replicate, aC, fgr, execOp, opd, ofValue, aD, put, nth, aB, bor, aJ, aK, intOp, bC, branch, ended, aT, aU, Nat.reduceSub, ge_iff_le, c, gL, gB, gI]
theorem f100 (z : Int) (h : Hp) (n : Nat) : Wp (bD env (evalW env) 100 [.int .i64 z]) h n fun v' h' n' => v' = .bool (lL z) ∧ h' = h ∧ n' = n := by
  refine bL ab6 ZE ?_
  unfold lL
  by_cases c : 0 ≤ z
  · simp only [FF, Try.f100, Option.getD_some, List.replicate, aC, fgr, execOp, opd, ofValue, aD, put, nth, aB, bor, aJ, aK, intOp, bC, branch, ended, aT, aU, Nat.reduceSub, ge_iff_le, c, gL, gB, gI]
  · simp only [FF, Try.f100, Option.getD_some, List.replicate, aC, fgr, execOp, opd, ofValue, aD, put, nth, aB, bor, aJ, aK, intOp, bC, branch, ended, aT, aU, Nat.reduceSub, ge_iff_le, c, gL, gB, gI]
def ptV (v : Ver) : Pt := (v.hash, v.pn)
def ptS (s : Spd) : Pt := (s.hash, s.pn)
def nQ (z : Int) (v : Ver) : Bool := decide (v.made = z) && decide (v.bZ = 0) && decide (v.by_ = z32) && lL v.value && decide (v.aR.length ≤ 2000)
def GQ (z : Int) (L : List Ver) (i : Nat) : Bool := match L[i]? with
  | some v => nQ z v && decide (kD ((L.take (i + 1)).map ptV) (ptV v) = 1)
  | none => true
def JU (L : List Spd) (i : Nat) : Bool := match L[i]? with
  | some v => decide (kD ((L.take (i + 1)).map ptS) (ptS v) = 1)
  | none => true
theorem rhk4 : gK env.qP 113 4 Ins.zN.c = some Ins.sQ := Ins.wV Ins.zN _ rfl
theorem XW : gK env.qP 113 12 Ins.rH.c = some Ins.pW := by
  show gK [Ins.rH] 113 12 _ = _
  exact Ins.wV Ins.rH _ rfl
theorem GS (Q : eJ) (ks : List Kf) (Y mv sv : a9) (c id a b n0 : Nat) (A : App) (hid : n0 ≤ id) (hc : c < n0) (hb : b ≤ n0)
    (P : Nat → Hp → Prop) (R : Hp → Prop)
    (hP : ∀ k h, P k h → Row h c (bK A mv sv) ∧ jN h a b A mv sv)
    (hst : ∀ k h h', P k h → (∀ j, j < n0 → h' j = h j) → P k h')
    (hsr : ∀ h h', R h → (∀ j, j < n0 → h' j = h j) → R h')
    (hY : ∀ (k : Nat) (hk : k < A.made.length) (w : a9) (h : Hp) (n : Nat), P k h → n0 ≤ n → bO h n → w = .bool (GQ A.bT A.made k) → Wp (jK env (evalW env) Y [ptA (ptV A.made[k]), w]) h n fun v' h' n' => ((yes true v' ∧ P (k + 1) h') ∨ (yes false v' ∧ R h')) ∧ ∀ j, n0 ≤ j → j < n → h' j = h j)
    (hT : ∀ (h : Hp) (n : Nat) (x5 x6 x8 x14 x63 x67 x68 x69 x70 x89 : a9), P A.made.length h → Pm h id (A.made.map ptV) → id < n → bO h n →
      dV env 113 none Q ks (.exit 0) (Y :: .ptr c 0 :: a9.aA :: .map id :: a9.aA :: x5 :: x6 :: a9.aA :: x8 :: a9.aA :: a9.aA :: mv :: .int .i64 (A.made.length : Nat) :: .int .i64 (A.made.length : Nat) :: x14 :: a9.aA :: a9.aA :: a9.aA :: a9.aA :: a9.aA :: a9.aA :: a9.aA :: a9.aA :: a9.aA :: a9.aA :: a9.aA :: a9.aA :: a9.aA :: a9.aA :: a9.aA :: a9.aA :: a9.aA :: a9.aA :: a9.aA :: a9.aA :: a9.aA :: a9.aA :: a9.aA :: a9.aA :: a9.aA :: a9.aA :: a9.aA :: a9.aA :: a9.aA :: a9.aA :: a9.aA :: a9.aA :: a9.aA :: a9.aA :: a9.aA :: a9.aA :: a9.aA :: a9.aA :: a9.aA :: a9.aA :: a9.aA :: a9.aA :: a9.aA :: a9.aA :: a9.aA :: a9.aA :: a9.aA :: a9.aA :: x63 :: a9.aA :: a9.aA :: a9.aA :: x67 :: x68 :: x69 :: x70 :: a9.aA :: a9.aA :: a9.aA :: a9.aA :: a9.aA :: a9.aA :: a9.aA :: a9.aA :: a9.aA :: a9.aA :: a9.aA :: a9.aA :: a9.aA :: a9.aA :: a9.aA :: a9.aA :: a9.aA :: a9.aA :: x89 :: a9.aA :: []) h n)
    (hR : ∀ (h : Hp) (n : Nat) (tm : List a9), R h → dV env 113 none Q ks .ret tm h n) :
    ∀ (m i : Nat) (h : Hp) (n : Nat) (x5 x6 x8 x14 x63 x67 x68 x69 x70 x89 : a9), i + m = A.made.length → P i h → Pm h id ((A.made.take i).map ptV) → id < n → bO h n →
      Run env 113 none Q (.loop A2) ks (Y :: .ptr c 0 :: a9.aA :: .map id :: a9.aA :: x5 :: x6 :: a9.aA :: x8 :: a9.aA :: a9.aA :: mv :: .int .i64 (A.made.length : Nat) :: .int .i64 (i : Nat) :: x14 :: a9.aA :: a9.aA :: a9.aA :: a9.aA :: a9.aA :: a9.aA :: a9.aA :: a9.aA :: a9.aA :: a9.aA :: a9.aA :: a9.aA :: a9.aA :: a9.aA :: a9.aA :: a9.aA :: a9.aA :: a9.aA :: a9.aA :: a9.aA :: a9.aA :: a9.aA :: a9.aA :: a9.aA :: a9.aA :: a9.aA :: a9.aA :: a9.aA :: a9.aA :: a9.aA :: a9.aA :: a9.aA :: a9.aA :: a9.aA :: a9.aA :: a9.aA :: a9.aA :: a9.aA :: a9.aA :: a9.aA :: a9.aA :: a9.aA :: a9.aA :: a9.aA :: a9.aA :: a9.aA :: a9.aA :: a9.aA :: x63 :: a9.aA :: a9.aA :: a9.aA :: x67 :: x68 :: x69 :: x70 :: a9.aA :: a9.aA :: a9.aA :: a9.aA :: a9.aA :: a9.aA :: a9.aA :: a9.aA :: a9.aA :: a9.aA :: a9.aA :: a9.aA :: a9.aA :: a9.aA :: a9.aA :: a9.aA :: a9.aA :: a9.aA :: x89 :: a9.aA :: []) h n := by
  intro m
  induction m with
  | zero =>
    intro i h n x5 x6 x8 x14 x63 x67 x68 x69 x70 x89 hm hp hmp hin hf
    have : i = A.made.length := by omega
    subst this
    rw [cF]
    have hcc : ¬ (((A.made.length : Nat) : Int) < ((A.made.length : Nat) : Int)) := by omega
    simp only [A2, bS, Try.f113, Option.getD_some, aC, fgr, execOp, opd, aD, put, nth, aB, bor, aJ, aK, intOp, List.getD_cons_zero, hcc, gL, gB]
    rw [List.take_length] at hmp
    exact hT h n _ _ _ _ _ _ _ _ _ _ hp hmp hin hf
  | succ m ih =>
    intro i h n x5 x6 x8 x14 x63 x67 x68 x69 x70 x89 hm hp hmp hin hf
    obtain ⟨hrc, ha⟩ := hP i h hp
    have hil : i < A.made.length := by omega
    have hcc : (((i : Nat) : Int) < ((A.made.length : Nat) : Int)) := by omega
    have w1 : IntKind.i64.wrap (((i : Nat) : Int) + 1) = ((i + 1 : Nat) : Int) := by rw [w64 (by omega) (by have := ha.ml; omega)]; omega
    obtain ⟨sw, va⟩ := ha.m.at_ hil
    have hge : A.made[i]? = some A.made[i] := List.getElem?_eq_getElem hil
    have hmay : GQ A.bT A.made i = (nQ A.bT A.made[i] && decide (kD ((A.made.take (i + 1)).map ptV) (ptV A.made[i]) = 1)) := by unfold GQ; rw [hge]
    have htk : (A.made.take (i + 1)).map ptV = (A.made.take i).map ptV ++ [ptV A.made[i]] := by rw [jO hil, List.map_append]; rfl
    have hYi := hY i hil
    rw [hmay] at hYi
    generalize A.made[i] = v at *
    rw [cF]
    simp only [A2, bS, Try.f113, Option.getD_some, aC, fgr, execOp, opd, aD, put, nth, aB, bor, aJ, aK, intOp, List.getD_cons_zero, hcc, gL, gB]
    rw [aM (ha.m.idx hil)]
    simp only [aC, execOp, opd, aD, put, nth]
    rw [aM (va.all n)]
    simp only [aC, execOp, aD, put]
    rw [cD dY rfl]
    simp only [aC, execOp, opd, aD, put, nth, cel]
    have kd := va.s.kind
    refine dQ (v := .agg (aO v sw)) dY rfl (bM va.ok.h va.ok.b) (cL kd.2.1) hf fun H1 r1 p1 f1 => ?_
    replace r1 : Row H1 n (aO v sw) := r1
    have m1 : Pm H1 id ((A.made.take i).map ptV) := hmp.aX (p1 id (by omega))
    have hlen : ((A.made.take i).map ptV).length ≤ 1000000 := by rw [List.length_map, List.length_take]; have := ha.ml; omega
    simp only [aC, fgr, aD, aB]
    refine y7 (act := Ins.sQ) rhk4 ?_
    unfold Ins.sQ
    refine EI (p := ptV v) rfl rfl rfl r1 (uY va.ok.h) va.ok.h m1 (by omega) fun H3 k3 m3 => ?_
    have e3 : ∀ j, j < n0 → H3 j = h j := fun j hj => by rw [k3 j (by omega), p1 j (by omega)]
    have p3 : P i H3 := hst i h H3 hp e3
    have r3 : Row H3 n (aO v sw) := r1.aX (k3 n (by omega))
    have f3 : bO H3 (n + 1) := fun j hj => by rw [k3 j (by omega)]; exact f1 j hj
    have bs3 : Bytes H3 sw v.aR := va.s.aX fun j q => e3 j (by have := va.sn j q; omega)
    obtain ⟨hrc3, ha3⟩ := hP i H3 p3
    rw [← htk] at m3
    simp only [aC, tyr, execOp, opd, aD, put, nth, und, sizeOf, aZ, aS, fieldAddr, Ins.tX, gL, gI]
    rw [aM (eS r3 va.ok)]
    simp only [aC, tyr, execOp, opd, aD, put, nth, und, sizeOf, aZ, aS, fieldAddr, gL, gI]
    rw [aM (tP hrc3)]
    by_cases c1 : v.made = A.bT
    rotate_left
    · have hfit : (nQ A.bT v && decide (kD ((A.made.take (i + 1)).map ptV) (ptV v) = 1)) = false := by simp [nQ, c1]
      simp only [aC, fgr, execOp, opd, ofValue, aD, put, nth, aB, bor, aJ, aK, intOp, bC, branch, c1, gL, gB, gI]
      refine cG ⟨rfl, ?_⟩
      simp only [aF, aI, aC, tyr, execOp, opd, aD, put, nth, und, sizeOf, aZ, aS, fieldAddr, Nat.reduceAdd, gL, gI]
      rw [bP (gX r3 va.ok)]
      simp only [aF, cS, cM, cR, jT, eX, aI, execOp, opd, bG, ofValue, aD, put, nth, aL, bC, branch, Nat.reduceAdd, gL]
      refine eF f3 (hYi (.bool false) H3 (n + 1) p3 (by omega) f3 (by rw [hfit])) fun v4 h4 n4 rr ww hn4 f4 ⟨hh, kk⟩ => ?_
      rcases hh with ⟨e4 | e4, hp4⟩ | ⟨e4 | e4, hr4⟩
      · subst e4
        simp only [bY, aF, aI, aC, fgr, execOp, opd, ofValue, aD, put, nth, aB, bor, aJ, aK, intOp, bU, unOp, Nat.reduceAdd, gB]
        refine ⟨(by (try simp (disch := first | assumption | omega) only [dF, List.all_cons, List.all_nil, gB, gF]); repeat' (first | rfl | exact (Bool.or_eq_true _ _).mpr (.inr rfl) | refine (Bool.and_eq_true _ _).mpr ⟨?_, ?_⟩)), ?_⟩
        simp only [w1]
        exact ih (i + 1) h4 n4 _ _ _ _ _ _ _ _ _ _ (by omega) hp4 (m3.aX (kk id hid (by omega))) (by omega) f4
      · subst e4
        simp only [bY, aF, aI, aC, fgr, execOp, opd, ofValue, aD, put, nth, aB, bor, aJ, aK, intOp, bU, unOp, Nat.reduceAdd, gB]
        refine ⟨(by (try simp (disch := first | assumption | omega) only [dF, List.all_cons, List.all_nil, gB, gF]); repeat' (first | rfl | exact (Bool.or_eq_true _ _).mpr (.inr rfl) | refine (Bool.and_eq_true _ _).mpr ⟨?_, ?_⟩)), ?_⟩
        simp only [w1]
        exact ih (i + 1) h4 n4 _ _ _ _ _ _ _ _ _ _ (by omega) hp4 (m3.aX (kk id hid (by omega))) (by omega) f4
      · subst e4
        simp only [bY, aF, aI, aC, fgr, execOp, opd, aD, put, nth, aB, unOp, Nat.reduceAdd, gB]
        exact ⟨(by (try simp (disch := first | assumption | omega) only [dF, List.all_cons, List.all_nil, gB, gF]); repeat' (first | rfl | exact (Bool.or_eq_true _ _).mpr (.inr rfl) | refine (Bool.and_eq_true _ _).mpr ⟨?_, ?_⟩)), hR h4 n4 _ hr4⟩
      · subst e4
        simp only [bY, aF, aI, aC, fgr, execOp, opd, aD, put, nth, aB, unOp, Nat.reduceAdd, gB]
        exact ⟨(by (try simp (disch := first | assumption | omega) only [dF, List.all_cons, List.all_nil, gB, gF]); repeat' (first | rfl | exact (Bool.or_eq_true _ _).mpr (.inr rfl) | refine (Bool.and_eq_true _ _).mpr ⟨?_, ?_⟩)), hR h4 n4 _ hr4⟩
    simp only [aC, tyr, execOp, opd, aD, put, nth, und, sizeOf, bor, aJ, aK, intOp, aZ, aS, fieldAddr, beq_self_eq_true, c1, gL, gB, gI]
    rw [aM (dD r3 va.ok)]
    by_cases c2 : v.bZ = 0
    rotate_left
    · have hfit : (nQ A.bT v && decide (kD ((A.made.take (i + 1)).map ptV) (ptV v) = 1)) = false := by simp [nQ, c2]
      simp only [aC, fgr, execOp, opd, ofValue, aD, put, nth, aB, bor, aJ, aK, intOp, bC, branch, c2, gL, gB, gI]
      refine cG ⟨rfl, ?_⟩
      simp only [aF, aI, aC, tyr, execOp, opd, aD, put, nth, und, sizeOf, aZ, aS, fieldAddr, Nat.reduceAdd, gL, gI]
      rw [bP (gX r3 va.ok)]
      simp only [aF, cS, cM, cR, jT, eX, aI, execOp, opd, bG, ofValue, aD, put, nth, aL, bC, branch, Nat.reduceAdd, gL]
      refine eF f3 (hYi (.bool false) H3 (n + 1) p3 (by omega) f3 (by rw [hfit])) fun v4 h4 n4 rr ww hn4 f4 ⟨hh, kk⟩ => ?_
      rcases hh with ⟨e4 | e4, hp4⟩ | ⟨e4 | e4, hr4⟩
      · subst e4
        simp only [bY, aF, aI, aC, fgr, execOp, opd, ofValue, aD, put, nth, aB, bor, aJ, aK, intOp, bU, unOp, Nat.reduceAdd, gB]
        refine ⟨(by (try simp (disch := first | assumption | omega) only [dF, List.all_cons, List.all_nil, gB, gF]); repeat' (first | rfl | exact (Bool.or_eq_true _ _).mpr (.inr rfl) | refine (Bool.and_eq_true _ _).mpr ⟨?_, ?_⟩)), ?_⟩
        simp only [w1]
        exact ih (i + 1) h4 n4 _ _ _ _ _ _ _ _ _ _ (by omega) hp4 (m3.aX (kk id hid (by omega))) (by omega) f4
      · subst e4
        simp only [bY, aF, aI, aC, fgr, execOp, opd, ofValue, aD, put, nth, aB, bor, aJ, aK, intOp, bU, unOp, Nat.reduceAdd, gB]
        refine ⟨(by (try simp (disch := first | assumption | omega) only [dF, List.all_cons, List.all_nil, gB, gF]); repeat' (first | rfl | exact (Bool.or_eq_true _ _).mpr (.inr rfl) | refine (Bool.and_eq_true _ _).mpr ⟨?_, ?_⟩)), ?_⟩
        simp only [w1]
        exact ih (i + 1) h4 n4 _ _ _ _ _ _ _ _ _ _ (by omega) hp4 (m3.aX (kk id hid (by omega))) (by omega) f4
      · subst e4
        simp only [bY, aF, aI, aC, fgr, execOp, opd, aD, put, nth, aB, unOp, Nat.reduceAdd, gB]
        exact ⟨(by (try simp (disch := first | assumption | omega) only [dF, List.all_cons, List.all_nil, gB, gF]); repeat' (first | rfl | exact (Bool.or_eq_true _ _).mpr (.inr rfl) | refine (Bool.and_eq_true _ _).mpr ⟨?_, ?_⟩)), hR h4 n4 _ hr4⟩
      · subst e4
        simp only [bY, aF, aI, aC, fgr, execOp, opd, aD, put, nth, aB, unOp, Nat.reduceAdd, gB]
        exact ⟨(by (try simp (disch := first | assumption | omega) only [dF, List.all_cons, List.all_nil, gB, gF]); repeat' (first | rfl | exact (Bool.or_eq_true _ _).mpr (.inr rfl) | refine (Bool.and_eq_true _ _).mpr ⟨?_, ?_⟩)), hR h4 n4 _ hr4⟩
    simp only [aC, tyr, execOp, opd, ofValue, aD, put, nth, und, sizeOf, bor, aJ, aK, intOp, bC, branch, aZ, aS, fieldAddr, beq_self_eq_true, c2, gL, gB, gI]
    rw [aM (D3 r3 va.ok)]
    have heq := Q3 v.by_ z32 va.ok.b rfl
    by_cases c3 : v.by_ = z32
    rotate_left
    · have hfit : (nQ A.bT v && decide (kD ((A.made.take (i + 1)).map ptV) (ptV v) = 1)) = false := by simp [nQ, c3]
      rw [decide_eq_false c3] at heq
      simp only [aC, fgr, execOp, opd, ofValue, dE, aD, put, nth, aB, bC, branch, b25, heq, gL]
      refine cG ⟨rfl, ?_⟩
      simp only [aF, aI, aC, tyr, execOp, opd, aD, put, nth, und, sizeOf, aZ, aS, fieldAddr, Nat.reduceAdd, gL, gI]
      rw [bP (gX r3 va.ok)]
      simp only [aF, cS, cM, cR, jT, eX, aI, execOp, opd, bG, ofValue, aD, put, nth, aL, bC, branch, Nat.reduceAdd, gL]
      refine eF f3 (hYi (.bool false) H3 (n + 1) p3 (by omega) f3 (by rw [hfit])) fun v4 h4 n4 rr ww hn4 f4 ⟨hh, kk⟩ => ?_
      rcases hh with ⟨e4 | e4, hp4⟩ | ⟨e4 | e4, hr4⟩
      · subst e4
        simp only [bY, aF, aI, aC, fgr, execOp, opd, ofValue, aD, put, nth, aB, bor, aJ, aK, intOp, bU, unOp, Nat.reduceAdd, gB]
        refine ⟨(by (try simp (disch := first | assumption | omega) only [dF, List.all_cons, List.all_nil, gB, gF]); repeat' (first | rfl | exact (Bool.or_eq_true _ _).mpr (.inr rfl) | refine (Bool.and_eq_true _ _).mpr ⟨?_, ?_⟩)), ?_⟩
        simp only [w1]
        exact ih (i + 1) h4 n4 _ _ _ _ _ _ _ _ _ _ (by omega) hp4 (m3.aX (kk id hid (by omega))) (by omega) f4
      · subst e4
        simp only [bY, aF, aI, aC, fgr, execOp, opd, ofValue, aD, put, nth, aB, bor, aJ, aK, intOp, bU, unOp, Nat.reduceAdd, gB]
        refine ⟨(by (try simp (disch := first | assumption | omega) only [dF, List.all_cons, List.all_nil, gB, gF]); repeat' (first | rfl | exact (Bool.or_eq_true _ _).mpr (.inr rfl) | refine (Bool.and_eq_true _ _).mpr ⟨?_, ?_⟩)), ?_⟩
        simp only [w1]
        exact ih (i + 1) h4 n4 _ _ _ _ _ _ _ _ _ _ (by omega) hp4 (m3.aX (kk id hid (by omega))) (by omega) f4
      · subst e4
        simp only [bY, aF, aI, aC, fgr, execOp, opd, aD, put, nth, aB, unOp, Nat.reduceAdd, gB]
        exact ⟨(by (try simp (disch := first | assumption | omega) only [dF, List.all_cons, List.all_nil, gB, gF]); repeat' (first | rfl | exact (Bool.or_eq_true _ _).mpr (.inr rfl) | refine (Bool.and_eq_true _ _).mpr ⟨?_, ?_⟩)), hR h4 n4 _ hr4⟩
      · subst e4
        simp only [bY, aF, aI, aC, fgr, execOp, opd, aD, put, nth, aB, unOp, Nat.reduceAdd, gB]
        exact ⟨(by (try simp (disch := first | assumption | omega) only [dF, List.all_cons, List.all_nil, gB, gF]); repeat' (first | rfl | exact (Bool.or_eq_true _ _).mpr (.inr rfl) | refine (Bool.and_eq_true _ _).mpr ⟨?_, ?_⟩)), hR h4 n4 _ hr4⟩
    rw [decide_eq_true c3] at heq
    simp only [aC, tyr, execOp, opd, ofValue, dE, aD, put, nth, und, sizeOf, bC, branch, aZ, aS, fieldAddr, b25, heq, gL, gI]
    rw [aM (kX r3 va.ok)]
    simp only [aC, execOp, opd, bG, aD, put, nth, aL, gL]
    refine eL (f100 v.value H3 (n + 1)) ?_
    cases c4 : lL v.value with
    | false =>
      have hfit : (nQ A.bT v && decide (kD ((A.made.take (i + 1)).map ptV) (ptV v) = 1)) = false := by simp [nQ, c4]
      simp only [aC, fgr, execOp, opd, ofValue, aD, put, nth, aB, bC, branch, gL]
      refine cG ⟨rfl, ?_⟩
      simp only [aF, aI, aC, tyr, execOp, opd, aD, put, nth, und, sizeOf, aZ, aS, fieldAddr, Nat.reduceAdd, gL, gI]
      rw [bP (gX r3 va.ok)]
      simp only [aF, cS, cM, cR, jT, eX, aI, execOp, opd, bG, ofValue, aD, put, nth, aL, bC, branch, Nat.reduceAdd, gL]
      refine eF f3 (hYi (.bool false) H3 (n + 1) p3 (by omega) f3 (by rw [hfit])) fun v4 h4 n4 rr ww hn4 f4 ⟨hh, kk⟩ => ?_
      rcases hh with ⟨e4 | e4, hp4⟩ | ⟨e4 | e4, hr4⟩
      · subst e4
        simp only [bY, aF, aI, aC, fgr, execOp, opd, ofValue, aD, put, nth, aB, bor, aJ, aK, intOp, bU, unOp, Nat.reduceAdd, gB]
        refine ⟨(by (try simp (disch := first | assumption | omega) only [dF, List.all_cons, List.all_nil, gB, gF]); repeat' (first | rfl | exact (Bool.or_eq_true _ _).mpr (.inr rfl) | refine (Bool.and_eq_true _ _).mpr ⟨?_, ?_⟩)), ?_⟩
        simp only [w1]
        exact ih (i + 1) h4 n4 _ _ _ _ _ _ _ _ _ _ (by omega) hp4 (m3.aX (kk id hid (by omega))) (by omega) f4
      · subst e4
        simp only [bY, aF, aI, aC, fgr, execOp, opd, ofValue, aD, put, nth, aB, bor, aJ, aK, intOp, bU, unOp, Nat.reduceAdd, gB]
        refine ⟨(by (try simp (disch := first | assumption | omega) only [dF, List.all_cons, List.all_nil, gB, gF]); repeat' (first | rfl | exact (Bool.or_eq_true _ _).mpr (.inr rfl) | refine (Bool.and_eq_true _ _).mpr ⟨?_, ?_⟩)), ?_⟩
        simp only [w1]
        exact ih (i + 1) h4 n4 _ _ _ _ _ _ _ _ _ _ (by omega) hp4 (m3.aX (kk id hid (by omega))) (by omega) f4
      · subst e4
        simp only [bY, aF, aI, aC, fgr, execOp, opd, aD, put, nth, aB, unOp, Nat.reduceAdd, gB]
        exact ⟨(by (try simp (disch := first | assumption | omega) only [dF, List.all_cons, List.all_nil, gB, gF]); repeat' (first | rfl | exact (Bool.or_eq_true _ _).mpr (.inr rfl) | refine (Bool.and_eq_true _ _).mpr ⟨?_, ?_⟩)), hR h4 n4 _ hr4⟩
      · subst e4
        simp only [bY, aF, aI, aC, fgr, execOp, opd, aD, put, nth, aB, unOp, Nat.reduceAdd, gB]
        exact ⟨(by (try simp (disch := first | assumption | omega) only [dF, List.all_cons, List.all_nil, gB, gF]); repeat' (first | rfl | exact (Bool.or_eq_true _ _).mpr (.inr rfl) | refine (Bool.and_eq_true _ _).mpr ⟨?_, ?_⟩)), hR h4 n4 _ hr4⟩
    | true =>
    simp only [aC, tyr, execOp, opd, ofValue, aD, put, nth, und, sizeOf, bC, branch, aZ, aS, fieldAddr, gL, gI]
    rw [aM (iO r3 va.ok)]
    simp only [aC, fgr, execOp, opd, bG, ofValue, aD, put, nth, aB, aL, builtin, dH, bor, aJ, aK, intOp, bC, branch, bs3.cY t29, gL, gB]
    by_cases c5 : (v.aR.length : Nat) ≤ 2000
    rotate_left
    · have hfit : (nQ A.bT v && decide (kD ((A.made.take (i + 1)).map ptV) (ptV v) = 1)) = false := by simp [nQ]; omega
      have c5' : ¬ (((v.aR.length : Nat) : Int) ≤ 2000) := by omega
      simp only [decide_false, c5']
      refine cG ⟨rfl, ?_⟩
      simp only [aF, aI, aC, tyr, execOp, opd, aD, put, nth, und, sizeOf, aZ, aS, fieldAddr, Nat.reduceAdd, gL, gI]
      rw [bP (gX r3 va.ok)]
      simp only [aF, cS, cM, cR, jT, eX, aI, execOp, opd, bG, ofValue, aD, put, nth, aL, bC, branch, Nat.reduceAdd, gL]
      refine eF f3 (hYi (.bool false) H3 (n + 1) p3 (by omega) f3 (by rw [hfit])) fun v4 h4 n4 rr ww hn4 f4 ⟨hh, kk⟩ => ?_
      rcases hh with ⟨e4 | e4, hp4⟩ | ⟨e4 | e4, hr4⟩
      · subst e4
        simp only [bY, aF, aI, aC, fgr, execOp, opd, ofValue, aD, put, nth, aB, bor, aJ, aK, intOp, bU, unOp, Nat.reduceAdd, gB]
        refine ⟨(by (try simp (disch := first | assumption | omega) only [dF, List.all_cons, List.all_nil, gB, gF]); repeat' (first | rfl | exact (Bool.or_eq_true _ _).mpr (.inr rfl) | refine (Bool.and_eq_true _ _).mpr ⟨?_, ?_⟩)), ?_⟩
        simp only [w1]
        exact ih (i + 1) h4 n4 _ _ _ _ _ _ _ _ _ _ (by omega) hp4 (m3.aX (kk id hid (by omega))) (by omega) f4
      · subst e4
        simp only [bY, aF, aI, aC, fgr, execOp, opd, ofValue, aD, put, nth, aB, bor, aJ, aK, intOp, bU, unOp, Nat.reduceAdd, gB]
        refine ⟨(by (try simp (disch := first | assumption | omega) only [dF, List.all_cons, List.all_nil, gB, gF]); repeat' (first | rfl | exact (Bool.or_eq_true _ _).mpr (.inr rfl) | refine (Bool.and_eq_true _ _).mpr ⟨?_, ?_⟩)), ?_⟩
        simp only [w1]
        exact ih (i + 1) h4 n4 _ _ _ _ _ _ _ _ _ _ (by omega) hp4 (m3.aX (kk id hid (by omega))) (by omega) f4
      · subst e4
        simp only [bY, aF, aI, aC, fgr, execOp, opd, aD, put, nth, aB, unOp, Nat.reduceAdd, gB]
        exact ⟨(by (try simp (disch := first | assumption | omega) only [dF, List.all_cons, List.all_nil, gB, gF]); repeat' (first | rfl | exact (Bool.or_eq_true _ _).mpr (.inr rfl) | refine (Bool.and_eq_true _ _).mpr ⟨?_, ?_⟩)), hR h4 n4 _ hr4⟩
      · subst e4
        simp only [bY, aF, aI, aC, fgr, execOp, opd, aD, put, nth, aB, unOp, Nat.reduceAdd, gB]
        exact ⟨(by (try simp (disch := first | assumption | omega) only [dF, List.all_cons, List.all_nil, gB, gF]); repeat' (first | rfl | exact (Bool.or_eq_true _ _).mpr (.inr rfl) | refine (Bool.and_eq_true _ _).mpr ⟨?_, ?_⟩)), hR h4 n4 _ hr4⟩
    have c5' : (((v.aR.length : Nat) : Int) ≤ 2000) := by omega
    have hfit : nQ A.bT v = true := by simp [nQ, c1, c2, c3, c4, c5]
    simp only [decide_true, c5']
    refine cG ⟨rfl, ?_⟩
    simp only [aF, aI, aC, tyr, execOp, opd, aD, put, nth, und, sizeOf, aZ, aS, fieldAddr, Nat.reduceAdd, gL, gI]
    rw [bP (gX r3 va.ok)]
    simp only [aF, cS, cM, cR, lS, aI, aC, tyr, execOp, opd, aD, put, nth, und, sizeOf, aZ, aS, fieldAddr, Nat.reduceAdd, gL, gI]
    rw [bP (gX r3 va.ok)]
    have hlk : Rd (j5 env 161 (.map id) (.agg (aY v.hash v.pn)) false) H3 (n + 1) [id] _ := m3.lookup (p := ptV v) va.ok.h
    simp only [cS, cM, cR, lS, execOp, opd, aD, put, nth, Nat.reduceAdd, gL]
    rw [bP hlk]
    have ecnt : decide (((kD ((A.made.take (i + 1)).map ptV) (ptV v) : Nat) : Int) = 1) = decide (kD ((A.made.take (i + 1)).map ptV) (ptV v) = 1) := by
      rw [decide_eq_decide]; omega
    simp only [aF, cS, cM, cR, lS, eX, aI, execOp, opd, bG, ofValue, aD, put, nth, aL, bor, aJ, aK, intOp, bC, branch, Nat.reduceAdd, ecnt, gL, gB, gI]
    refine eF f3 (hYi (.bool (decide (kD ((A.made.take (i + 1)).map ptV) (ptV v) = 1))) H3 (n + 1) p3 (by omega) f3 (by rw [hfit, Bool.true_and])) fun v4 h4 n4 rr ww hn4 f4 ⟨hh, kk⟩ => ?_
    rcases hh with ⟨e4 | e4, hp4⟩ | ⟨e4 | e4, hr4⟩
    · subst e4
      simp only [bY, aF, aI, aC, fgr, execOp, opd, ofValue, aD, put, nth, aB, bor, aJ, aK, intOp, bU, unOp, Nat.reduceAdd, gB]
      refine ⟨(by (try simp (disch := first | assumption | omega) only [dF, List.all_cons, List.all_nil, gB, gF]); repeat' (first | rfl | exact (Bool.or_eq_true _ _).mpr (.inr rfl) | refine (Bool.and_eq_true _ _).mpr ⟨?_, ?_⟩)), ?_⟩
      simp only [w1]
      exact ih (i + 1) h4 n4 _ _ _ _ _ _ _ _ _ _ (by omega) hp4 (m3.aX (kk id hid (by omega))) (by omega) f4
    · subst e4
      simp only [bY, aF, aI, aC, fgr, execOp, opd, ofValue, aD, put, nth, aB, bor, aJ, aK, intOp, bU, unOp, Nat.reduceAdd, gB]
      refine ⟨(by (try simp (disch := first | assumption | omega) only [dF, List.all_cons, List.all_nil, gB, gF]); repeat' (first | rfl | exact (Bool.or_eq_true _ _).mpr (.inr rfl) | refine (Bool.and_eq_true _ _).mpr ⟨?_, ?_⟩)), ?_⟩
      simp only [w1]
      exact ih (i + 1) h4 n4 _ _ _ _ _ _ _ _ _ _ (by omega) hp4 (m3.aX (kk id hid (by omega))) (by omega) f4
    · subst e4
      simp only [bY, aF, aI, aC, fgr, execOp, opd, aD, put, nth, aB, unOp, Nat.reduceAdd, gB]
      exact ⟨(by (try simp (disch := first | assumption | omega) only [dF, List.all_cons, List.all_nil, gB, gF]); repeat' (first | rfl | exact (Bool.or_eq_true _ _).mpr (.inr rfl) | refine (Bool.and_eq_true _ _).mpr ⟨?_, ?_⟩)), hR h4 n4 _ hr4⟩
    · subst e4
      simp only [bY, aF, aI, aC, fgr, execOp, opd, aD, put, nth, aB, unOp, Nat.reduceAdd, gB]
      exact ⟨(by (try simp (disch := first | assumption | omega) only [dF, List.all_cons, List.all_nil, gB, gF]); repeat' (first | rfl | exact (Bool.or_eq_true _ _).mpr (.inr rfl) | refine (Bool.and_eq_true _ _).mpr ⟨?_, ?_⟩)), hR h4 n4 _ hr4⟩
theorem GR (Q : eJ) (ks : List Kf) (Y mv sv : a9) (c id a b n0 : Nat) (A : App) (hid : n0 ≤ id) (hc : c < n0) (hb : b ≤ n0)
    (P : Nat → Hp → Prop) (R : Hp → Prop)
    (hP : ∀ k h, P k h → Row h c (bK A mv sv) ∧ jN h a b A mv sv)
    (hst : ∀ k h h', P k h → (∀ j, j < n0 → h' j = h j) → P k h')
    (hY : ∀ (k : Nat) (hk : k < A.c8.length) (w : a9) (h : Hp) (n : Nat), P (A.made.length + k) h → n0 ≤ n → bO h n → w = .bool (JU A.c8 k) → Wp (jK env (evalW env) Y [ptA (ptS A.c8[k]), w]) h n fun v' h' n' => ((yes true v' ∧ P (A.made.length + k + 1) h') ∨ (yes false v' ∧ R h')) ∧ ∀ j, n0 ≤ j → j < n → h' j = h j)
    (hT : ∀ (h : Hp) (n : Nat) (tm : List a9), P (A.made.length + A.c8.length) h → dV env 113 none Q ks (.exit 2) tm h n)
    (hR : ∀ (h : Hp) (n : Nat) (tm : List a9), R h → dV env 113 none Q ks .ret tm h n) :
    ∀ (m i : Nat) (h : Hp) (n : Nat) (x1 x5 x6 x8 x11 x12 x13 x14 x63 x70 x89 : a9), i + m = A.c8.length → P (A.made.length + i) h → Pm h id ((A.c8.take i).map ptS) → id < n → bO h n →
      Run env 113 none Q (.loop A1) ks (Y :: x1 :: a9.aA :: .map id :: a9.aA :: x5 :: x6 :: a9.aA :: x8 :: a9.aA :: a9.aA :: x11 :: x12 :: x13 :: x14 :: a9.aA :: a9.aA :: a9.aA :: a9.aA :: a9.aA :: a9.aA :: a9.aA :: a9.aA :: a9.aA :: a9.aA :: a9.aA :: a9.aA :: a9.aA :: a9.aA :: a9.aA :: a9.aA :: a9.aA :: a9.aA :: a9.aA :: a9.aA :: a9.aA :: a9.aA :: a9.aA :: a9.aA :: a9.aA :: a9.aA :: a9.aA :: a9.aA :: a9.aA :: a9.aA :: a9.aA :: a9.aA :: a9.aA :: a9.aA :: a9.aA :: a9.aA :: a9.aA :: a9.aA :: a9.aA :: a9.aA :: a9.aA :: a9.aA :: a9.aA :: a9.aA :: a9.aA :: a9.aA :: a9.aA :: a9.aA :: x63 :: a9.aA :: a9.aA :: a9.aA :: sv :: .int .i64 (A.c8.length : Nat) :: .int .i64 (i : Nat) :: x70 :: a9.aA :: a9.aA :: a9.aA :: a9.aA :: a9.aA :: a9.aA :: a9.aA :: a9.aA :: a9.aA :: a9.aA :: a9.aA :: a9.aA :: a9.aA :: a9.aA :: a9.aA :: a9.aA :: a9.aA :: a9.aA :: x89 :: a9.aA :: []) h n := by
  intro m
  induction m with
  | zero =>
    intro i h n x1 x5 x6 x8 x11 x12 x13 x14 x63 x70 x89 hm hp hmp hin hf
    have : i = A.c8.length := by omega
    subst this
    rw [cF]
    have hcc : ¬ (((A.c8.length : Nat) : Int) < ((A.c8.length : Nat) : Int)) := by omega
    simp only [A1, bS, Try.f113, Option.getD_some, aC, fgr, execOp, opd, aD, put, nth, aB, bor, aJ, aK, intOp, List.getD_cons_zero, List.getD_cons_succ, hcc, gL, gB]
    exact hT h n _ hp
  | succ m ih =>
    intro i h n x1 x5 x6 x8 x11 x12 x13 x14 x63 x70 x89 hm hp hmp hin hf
    obtain ⟨hrc, ha⟩ := hP _ h hp
    have hil : i < A.c8.length := by omega
    have hcc : (((i : Nat) : Int) < ((A.c8.length : Nat) : Int)) := by omega
    have w1 : IntKind.i64.wrap (((i : Nat) : Int) + 1) = ((i + 1 : Nat) : Int) := by rw [w64 (by omega) (by have := ha.sl; omega)]; omega
    obtain ⟨ok, hld⟩ := ha.s.all (n := n) hil
    have hge : A.c8[i]? = some A.c8[i] := List.getElem?_eq_getElem hil
    have hmay : JU A.c8 i = decide (kD ((A.c8.take (i + 1)).map ptS) (ptS A.c8[i]) = 1) := by unfold JU; rw [hge]
    have htk : (A.c8.take (i + 1)).map ptS = (A.c8.take i).map ptS ++ [ptS A.c8[i]] := by rw [jO hil, List.map_append]; rfl
    have hYi := hY i hil
    rw [hmay] at hYi
    generalize A.c8[i] = v at *
    rw [cF]
    simp only [A1, bS, Try.f113, Option.getD_some, aC, fgr, execOp, opd, aD, put, nth, aB, bor, aJ, aK, intOp, List.getD_cons_zero, List.getD_cons_succ, hcc, gL, gB]
    rw [aM (ha.s.idx hil)]
    simp only [aC, execOp, opd, aD, put, nth]
    rw [aM hld]
    simp only [aC, execOp, aD, put]
    rw [cD xI rfl]
    simp only [aC, execOp, opd, aD, put, nth, cel]
    refine dQ (v := .agg (fB v)) xI rfl (lF ok) (qO v) hf fun H1 r1 p1 f1 => ?_
    replace r1 : Row H1 n (fB v) := r1
    have m1 : Pm H1 id ((A.c8.take i).map ptS) := hmp.aX (p1 id (by omega))
    have hlen : ((A.c8.take i).map ptS).length ≤ 1000000 := by rw [List.length_map, List.length_take]; have := ha.sl; omega
    simp only [aC, fgr, aD, aB]
    refine y7 (act := Ins.pW) XW ?_
    unfold Ins.pW
    refine EI (p := ptS v) rfl rfl rfl r1 (IJ ok) ok.h m1 (by omega) fun H3 k3 m3 => ?_
    have e3 : ∀ j, j < n0 → H3 j = h j := fun j hj => by rw [k3 j (by omega), p1 j (by omega)]
    have p3 : P (A.made.length + i) H3 := hst _ h H3 hp e3
    have r3 : Row H3 n (fB v) := r1.aX (k3 n (by omega))
    have f3 : bO H3 (n + 1) := fun j hj => by rw [k3 j (by omega)]; exact f1 j hj
    rw [← htk] at m3
    simp only [aC, put, Ins.tX]
    refine cG ⟨rfl, ?_⟩
    simp only [aF, aI, aC, tyr, execOp, opd, aD, put, nth, und, sizeOf, aZ, aS, fieldAddr, Nat.reduceAdd, gL, gI]
    rw [bP (uL r3 ok)]
    simp only [aF, aI, aC, tyr, execOp, opd, aD, put, nth, und, sizeOf, aZ, aS, fieldAddr, Nat.reduceAdd, gL, gI]
    rw [bP (uL r3 ok)]
    have hlk : Rd (j5 env 161 (.map id) (.agg (aY v.hash v.pn)) false) H3 (n + 1) [id] _ := m3.lookup (p := ptS v) ok.h
    simp only [aF, execOp, opd, aD, put, nth, Nat.reduceAdd]
    rw [bP hlk]
    have ecnt : decide (((kD ((A.c8.take (i + 1)).map ptS) (ptS v) : Nat) : Int) = 1) = decide (kD ((A.c8.take (i + 1)).map ptS) (ptS v) = 1) := by
      rw [decide_eq_decide]; omega
    simp only [aF, aI, execOp, opd, bG, ofValue, aD, put, nth, aL, bor, aJ, aK, intOp, Nat.reduceAdd, ecnt, gB, gI]
    refine eF f3 (hYi (.bool (decide (kD ((A.c8.take (i + 1)).map ptS) (ptS v) = 1))) H3 (n + 1) p3 (by omega) f3 rfl) fun v4 h4 n4 rr ww hn4 f4 ⟨hh, kk⟩ => ?_
    rcases hh with ⟨e4 | e4, hp4⟩ | ⟨e4 | e4, hr4⟩
    · subst e4
      simp only [bY, aF, aI, aC, fgr, execOp, opd, ofValue, aD, put, nth, aB, bor, aJ, aK, intOp, bU, unOp, Nat.reduceAdd, gB]
      refine ⟨(by (try simp (disch := first | assumption | omega) only [dF, List.all_cons, List.all_nil, gB, gF]); repeat' (first | rfl | exact (Bool.or_eq_true _ _).mpr (.inr rfl) | refine (Bool.and_eq_true _ _).mpr ⟨?_, ?_⟩)), ?_⟩
      simp only [w1]
      exact ih (i + 1) h4 n4 _ _ _ _ _ _ _ _ _ _ _ (by omega) hp4 (m3.aX (kk id hid (by omega))) (by omega) f4
    · subst e4
      simp only [bY, aF, aI, aC, fgr, execOp, opd, ofValue, aD, put, nth, aB, bor, aJ, aK, intOp, bU, unOp, Nat.reduceAdd, gB]
      refine ⟨(by (try simp (disch := first | assumption | omega) only [dF, List.all_cons, List.all_nil, gB, gF]); repeat' (first | rfl | exact (Bool.or_eq_true _ _).mpr (.inr rfl) | refine (Bool.and_eq_true _ _).mpr ⟨?_, ?_⟩)), ?_⟩
      simp only [w1]
      exact ih (i + 1) h4 n4 _ _ _ _ _ _ _ _ _ _ _ (by omega) hp4 (m3.aX (kk id hid (by omega))) (by omega) f4
    · subst e4
      simp only [bY, aF, aI, aC, fgr, execOp, opd, aD, put, nth, aB, unOp, Nat.reduceAdd, gB]
      exact ⟨(by (try simp (disch := first | assumption | omega) only [dF, List.all_cons, List.all_nil, gB, gF]); repeat' (first | rfl | exact (Bool.or_eq_true _ _).mpr (.inr rfl) | refine (Bool.and_eq_true _ _).mpr ⟨?_, ?_⟩)), hR h4 n4 _ hr4⟩
    · subst e4
      simp only [bY, aF, aI, aC, fgr, execOp, opd, aD, put, nth, aB, unOp, Nat.reduceAdd, gB]
      exact ⟨(by (try simp (disch := first | assumption | omega) only [dF, List.all_cons, List.all_nil, gB, gF]); repeat' (first | rfl | exact (Bool.or_eq_true _ _).mpr (.inr rfl) | refine (Bool.and_eq_true _ _).mpr ⟨?_, ?_⟩)), hR h4 n4 _ hr4⟩
theorem f113 (Y mv sv : a9) (c a b : Nat) (A : App) (h : Hp) (n : Nat) (hc : c < n) (hb : b ≤ n) (hf : bO h n)
    (P : Nat → Hp → Prop) (R : Hp → Prop) (h0 : P 0 h)
    (hP : ∀ k h, P k h → Row h c (bK A mv sv) ∧ jN h a b A mv sv)
    (hst : ∀ k h h', P k h → (∀ j, j < n → h' j = h j) → P k h')
    (hsr : ∀ h h', R h → (∀ j, j < n → h' j = h j) → R h')
    (hY1 : ∀ (k : Nat) (hk : k < A.made.length) (w : a9) (h' : Hp) (n' : Nat), P k h' → n ≤ n' → bO h' n' → w = .bool (GQ A.bT A.made k) → Wp (jK env (evalW env) Y [ptA (ptV A.made[k]), w]) h' n' fun v1 h1 n1 => ((yes true v1 ∧ P (k + 1) h1) ∨ (yes false v1 ∧ R h1)) ∧ ∀ j, n ≤ j → j < n' → h1 j = h' j)
    (hY2 : ∀ (k : Nat) (hk : k < A.c8.length) (w : a9) (h' : Hp) (n' : Nat), P (A.made.length + k) h' → n ≤ n' → bO h' n' → w = .bool (JU A.c8 k) → Wp (jK env (evalW env) Y [ptA (ptS A.c8[k]), w]) h' n' fun v1 h1 n1 => ((yes true v1 ∧ P (A.made.length + k + 1) h1) ∨ (yes false v1 ∧ R h1)) ∧ ∀ j, n ≤ j → j < n' → h1 j = h' j) :
    Wp (bD env (evalW env) 113 [Y, .ptr c 0]) h n fun v' h' n' => v' = .tup [] ∧ (P (A.made.length + A.c8.length) h' ∨ R h') := by
  obtain ⟨hrc, ha⟩ := hP 0 h h0
  refine bL aa6 Z4 ?_
  simp only [KT, Try.f113, Option.getD_some, List.replicate, aC, tyr, fgr, execOp, opd, opt, aD, put, nth, aB, und, sizeOf, aZ, ended, aT, aU, aS, fieldAddr, Nat.reduceAdd, Nat.reduceSub, rR, opt, rN, gL, gB, gI]
  obtain ⟨H1, hH1⟩ : ∃ H1, H1 = upd h n (some (Blk.map [] 0)) := ⟨_, rfl⟩
  rw [← hH1]
  have o1 : ∀ j, j < n → H1 j = h j := fun j hj => by rw [hH1, aP _ _ (by omega)]
  have m1 : Pm H1 n [] := Pm.new (by rw [hH1, aW])
  have f1 : bO H1 (n + 1) := by rw [hH1]; exact hf.new
  clear hH1
  have p1 := hst 0 h H1 h0 o1
  obtain ⟨hrc1, ha1⟩ := hP 0 H1 p1
  rw [aM (mI hrc1 ha1.b)]
  simp only [aC, fgr, execOp, opd, bG, ofValue, aD, put, nth, aB, aL, builtin, dH, ha1.m.len]
  refine GS _ _ Y mv sv c n a b n A (Nat.le_refl _) hc hb P R hP hst hsr hY1 ?_ ?_ A.made.length 0 H1 (n + 1) _ _ _ _ _ _ _ _ _ _ (by omega) p1 m1 (by omega) f1
  · intro h2 n2 x5 x6 x8 x14 x63 x67 x68 x69 x70 x89 p2 m2 hn2 f2
    simp only [aC, execOp, opd, bG, aD, put, nth, aL, builtin, dH]
    obtain ⟨H3, w3, k3, m3⟩ := m2.clear (n := n2)
    rw [dR w3]
    have p3 := hst _ h2 H3 p2 fun j hj => k3 j (by omega)
    have f3 : bO H3 n2 := fun j hj => by rw [k3 j (by omega)]; exact f2 j hj
    obtain ⟨hrc3, ha3⟩ := hP _ H3 p3
    simp only [aC, tyr, fgr, execOp, opd, aD, put, nth, aB, und, sizeOf, aZ, aS, fieldAddr, gL, gI]
    rw [aM (tO hrc3 ha3.b)]
    simp only [aC, fgr, execOp, opd, bG, ofValue, aD, put, nth, aB, aL, builtin, dH, ha3.s.len]
    refine GR _ _ Y mv sv c n a b n A (Nat.le_refl _) hc hb P R hP hst hY2 ?_ ?_ A.c8.length 0 H3 n2 _ _ _ _ _ _ _ _ _ _ _ (by omega) p3 m3 hn2 f3
    · intro h4 n4 tm p4
      simp only [aC, true_and]
      exact .inl p4
    · intro h4 n4 tm r4
      simp only [aC, true_and]
      exact .inr r4
  · intro h4 n4 tm r4
    simp only [aC, true_and]
    exact .inr r4
def bs (b : Bool) (v : a9) : a9 := match b with
  | true => v
  | false => undef
section
variable {E : Env} {fn : FuncId} {rnd : Option Nat} {Q : eJ} {ks : List Kf} {tm : List a9} {h : Hp} {n : Nat} {ops rest : List Oper} {d : Option Tmp}
theorem j7 {b : Bool} {op : Op} {v : a9} (hr : b = true → Wp (execOp E (evalW E) tm op) h n fun v' h' n' => v' = v ∧ h' = h ∧ n' = n) (hq : Ops E fn rnd Q ks ops rest (aD tm d (bs b v)) h n) : OpG E fn rnd Q ks ops rest d tm op true (.gG b) h n := by
  cases b with
  | true => rw [JJ]; exact eL (hr rfl) hq
  | false => rw [JK]; exact hq
theorem mR {b m : Bool} : OpV E fn rnd Q ks ops rest d tm (bC (.bool b) (bs b (.bool m)) (.bool false)) h n ↔ Ops E fn rnd Q ks ops rest (aD tm d (.bool (b && m))) h n := by
  cases b <;> simp only [bs, bC, branch, zS, iY, Bool.true_and, Bool.false_and]
end
theorem jX {A : App} {mv sv : a9} (h1 : bN mv = true) (h2 : bN sv = true) : (bK A mv sv).all bN = true := by
  unfold bK
  rw [List.all_cons, List.all_append]
  simp only [List.all_cons, List.all_nil, h1, h2, Bool.and_true, Bool.true_and]
  rw [List.all_map]
  simp [u8, bN]
theorem f101 (A : App) (mv sv : a9) (h : Hp) (n : Nat) (hf : bO h n) : Wp (bD env (evalW env) 101 [.agg (bK A mv sv)]) h n fun v' h' n' => v' = .fn (.func 113) [] [.ptr n 0] ∧ Row h' n (bK A mv sv) ∧ (∀ j, j ≠ n → h' j = h j) ∧ n' = n + 1 := by
  refine bL ab5 ZD ?_
  simp only [L6, Try.f101, Option.getD_some, List.replicate, aC, execOp, opd, nth, ended, aT, aU, Nat.reduceSub, gL, gI]
  refine dA (v := .agg (bK A mv sv)) lY rfl hf fun H1 r1 o1 f1 => ?_
  simp only [aC, fgr, execOp, opd, bG, ofValue, aD, put, nth, aB, gB]
  exact ⟨r1, o1⟩
def vR (A : App) (k : Nat) : Bool := if k < A.made.length then GQ A.bT A.made k else JU A.c8 (k - A.made.length)
def KN (A : App) : Bool := uS A.bT && lL A.eW && lL A.left && decide (A.made.length ≤ 5000) && decide (A.c8.length ≤ 5000)
def iW (A : App) (k : Nat) : Bool := KN A && (List.range k).all (vR A)
def lU (A : App) : Bool := iW A (A.made.length + A.c8.length)
theorem OS (A : App) : iW A 0 = KN A := by simp [iW]
theorem FH (A : App) (k : Nat) : iW A (k + 1) = (iW A k && vR A k) := by
  unfold iW
  rw [List.range_succ, List.all_append]
  simp [Bool.and_assoc]
theorem L7 {A : App} {k : Nat} (h : iW A k = false) (hk : k ≤ A.made.length + A.c8.length) : lU A = false := by
  unfold lU
  obtain ⟨d, hd⟩ := Nat.exists_eq_add_of_le hk
  rw [hd]
  clear hd hk
  induction d with
  | zero => exact h
  | succ d ih => rw [← Nat.add_assoc, FH, ih]; rfl
noncomputable def L67 (tm : List a9) : kI := { state := .ready, pending := none, fn := 67, tmps := tm, params := [33, 34], assign := IZ, body := IU }
end Go.Am.Ytlgebaofkolkoaa
set_option linter.unusedSimpArgs false
set_option linter.unusedVariables false
set_option linter.defProp false
set_option maxRecDepth 10000
namespace Go.Am.Ytlgebaofkolkoaa
open Go Go.Am Go.Proofs
theorem f67 (A : App) (mv sv : a9) (a b : Nat) (h : Hp) (n : Nat) (ha : jN h a b A mv sv) (hb : b ≤ n) (hf : bO h n) : Wp (bD env (evalW env) 67 [.agg (bK A mv sv)]) h n fun v' h' n' => v' = .int .i64 (if lU A then 0 else 200) ∧ Old h h' n := by
  refine bL ff67 fi67 ?_
  simp only [UW, Try.f67, Option.getD_some, List.replicate, aC, execOp, opd, nth, ended, aT, aU, Nat.reduceSub, gL, gI]
  refine dA (v := .agg (bK A mv sv)) lY rfl hf fun H1 r1 o1 f1 => ?_
  replace r1 : Row H1 n (bK A mv sv) := r1
  have a1 := ha.aX (h' := H1) fun j _ q => o1 j (by omega)
  simp only [aC, tyr, fgr, execOp, opd, ofValue, aD, put, nth, aB, und, sizeOf, aZ, aS, fieldAddr, gL, gI]
  rw [aM (tP r1)]
  simp only [aC, hkr, execOp, opd, bG, aD, put, nth, aL, aE, gL]
  refine eL (f99 A.bT H1 (n + 1)) ?_
  obtain ⟨b1, hb1⟩ : ∃ b, b = uS A.bT := ⟨_, rfl⟩
  rw [← hb1]
  simp only [aC, execOp, opd, aD, put, nth, gL]
  refine j7 (v := .ptr n 35) (fun _ => wp_pure.2 ⟨rfl, rfl, rfl⟩) ?_
  simp only [aC, aD, put, nth, List.getElem?_cons_succ, List.getElem?_cons_zero]
  refine j7 (v := .int .i64 A.eW) (fun hb => by subst hb; exact (AL r1 ha.b).wp) ?_
  simp only [aC, aD, put, nth, List.getElem?_cons_succ, List.getElem?_cons_zero]
  refine j7 (v := .bool (lL A.eW)) (fun hb => by subst hb; exact f100 A.eW H1 (n + 1)) ?_
  simp only [aC, execOp, opd, ofValue, aD, put, nth, mR, gL]
  obtain ⟨b2, hb2⟩ : ∃ b, b = (b1 && lL A.eW) := ⟨_, rfl⟩
  rw [← hb2]
  refine j7 (v := .ptr n 36) (fun _ => wp_pure.2 ⟨rfl, rfl, rfl⟩) ?_
  simp only [aC, aD, put, nth, List.getElem?_cons_succ, List.getElem?_cons_zero]
  refine j7 (v := .int .i64 A.left) (fun hb => by subst hb; exact (AK r1 ha.b).wp) ?_
  simp only [aC, aD, put, nth, List.getElem?_cons_succ, List.getElem?_cons_zero]
  refine j7 (v := .bool (lL A.left)) (fun hb => by subst hb; exact f100 A.left H1 (n + 1)) ?_
  simp only [aC, execOp, opd, ofValue, aD, put, nth, mR, gL]
  obtain ⟨b3, hb3⟩ : ∃ b, b = (b2 && lL A.left) := ⟨_, rfl⟩
  rw [← hb3]
  refine j7 (v := .ptr n 33) (fun _ => wp_pure.2 ⟨rfl, rfl, rfl⟩) ?_
  simp only [aC, aD, put, nth, List.getElem?_cons_succ, List.getElem?_cons_zero]
  refine j7 (v := mv) (fun hb => by subst hb; exact (mI r1 ha.b).wp) ?_
  simp only [aC, aD, put, nth, List.getElem?_cons_succ, List.getElem?_cons_zero]
  refine j7 (v := .int .i64 (A.made.length : Nat)) (fun hb => by subst hb; show Wp (cY env [43] mv) _ _ _; rw [a1.m.len]; exact wp_pure.2 ⟨rfl, rfl, rfl⟩) ?_
  simp only [aC, aD, put, nth, List.getElem?_cons_succ, List.getElem?_cons_zero]
  refine j7 (v := .bool (decide (((A.made.length : Nat) : Int) ≤ 5000))) (fun hb => by subst hb; exact wp_pure.2 ⟨rfl, rfl, rfl⟩) ?_
  simp only [aC, execOp, opd, ofValue, aD, put, nth, mR, gL]
  obtain ⟨b4, hb4⟩ : ∃ b, b = (b3 && decide (((A.made.length : Nat) : Int) ≤ 5000)) := ⟨_, rfl⟩
  rw [← hb4]
  refine j7 (v := .ptr n 34) (fun _ => wp_pure.2 ⟨rfl, rfl, rfl⟩) ?_
  simp only [aC, aD, put, nth, List.getElem?_cons_succ, List.getElem?_cons_zero]
  refine j7 (v := sv) (fun hb => by subst hb; exact (tO r1 ha.b).wp) ?_
  simp only [aC, aD, put, nth, List.getElem?_cons_succ, List.getElem?_cons_zero]
  refine j7 (v := .int .i64 (A.c8.length : Nat)) (fun hb => by subst hb; show Wp (cY env [44] sv) _ _ _; rw [a1.s.len]; exact wp_pure.2 ⟨rfl, rfl, rfl⟩) ?_
  simp only [aC, aD, put, nth, List.getElem?_cons_succ, List.getElem?_cons_zero]
  refine j7 (v := .bool (decide (((A.c8.length : Nat) : Int) ≤ 5000))) (fun hb => by subst hb; exact wp_pure.2 ⟨rfl, rfl, rfl⟩) ?_
  simp only [aC, execOp, opd, ofValue, aD, put, nth, mR]
  have hb5 : (b4 && decide (((A.c8.length : Nat) : Int) ≤ 5000)) = iW A 0 := by
    rw [OS, hb4, hb3, hb2, hb1]
    unfold KN
    have q1 : decide (((A.made.length : Nat) : Int) ≤ 5000) = decide (A.made.length ≤ 5000) := by rw [decide_eq_decide]; omega
    have q2 : decide (((A.c8.length : Nat) : Int) ≤ 5000) = decide (A.c8.length ≤ 5000) := by rw [decide_eq_decide]; omega
    rw [q1, q2]
  rw [hb5]
  rw [cD ti4 rfl]
  simp only [aC, execOp, opd, aD, put, nth, cel]
  refine dQ (v := .bool (iW A 0)) ti4 rfl rfl rfl f1 fun H2 r2 o2 f2 => ?_
  replace r2 : Row H2 (n + 1) [.bool (iW A 0)] := r2
  have r12 := r1.aX (o2 n (by omega))
  simp only [aC, fgr, execOp, opd, aD, nth, aB]
  rw [aM (lX r12 ha.b)]
  simp only [aC, hkr, execOp, opd, bG, aD, put, nth, aL, aE, gL]
  refine bF f2 (f101 A mv sv H2 (n + 1 + 1) f2) fun v3 h3 n3 hn3 f3 ⟨e3, r3, o3, en3⟩ => ?_
  subst e3; subst en3
  simp only [aC, fgr, aD, put, aB]
  refine kW (g := 113) (first := []) (cap := [.ptr (n + 1 + 1) 0]) rfl rfl ?_
  let TM : List a9 := (.agg (bK A mv sv) :: .ptr n 0 :: .int .i64 0 :: .ptr (n + 1) 0 :: a9.aA :: undef :: a9.aA :: a9.aA :: a9.aA :: a9.aA :: a9.aA :: a9.aA :: a9.aA :: a9.aA :: a9.aA :: a9.aA :: a9.aA :: a9.aA :: a9.aA :: a9.aA :: a9.aA :: a9.aA :: a9.aA :: a9.aA :: a9.aA :: a9.aA :: a9.aA :: a9.aA :: a9.aA :: a9.aA :: a9.aA :: a9.aA :: .fn (.func 113) [] [.ptr (n + 1 + 1) 0] :: a9.aA :: undef :: a9.aA :: a9.aA :: a9.aA :: a9.aA :: a9.aA :: undef :: a9.aA :: undef :: [])
  obtain ⟨H4, hH4⟩ : ∃ H4, H4 = upd h3 (n + 1 + 1 + 1) (some (Blk.loop (L67 TM))) := ⟨_, rfl⟩
  show Wp (c9 env (evalW env) 113 [a9.fn (Fn.yield (n + 1 + 1 + 1)) [] [], a9.ptr (n + 1 + 1) 0]) (upd h3 (n + 1 + 1 + 1) (some (Blk.loop (L67 TM)))) (n + 1 + 1 + 1 + 1) _
  rw [PO, ← hH4]
  have f4 : bO H4 (n + 1 + 1 + 1 + 1) := by rw [hH4]; exact f3.new
  have o4 : ∀ j, j ≠ n + 1 + 1 + 1 → H4 j = h3 j := fun j hj => by rw [hH4, aP _ _ hj]
  have g4 : H4 (n + 1 + 1 + 1) = some (.loop (L67 TM)) := by rw [hH4, aW]
  clear hH4
  have old4 : ∀ j, j < n → H4 j = h j := fun j hj => by rw [o4 j (by omega), o3 j (by omega), o2 j (by omega), o1 j (by omega)]
  have a4 : jN H4 a b A mv sv := ha.aX fun j _ q => old4 j (by omega)
  have r4 : Row H4 (n + 1) [.bool (iW A 0)] := (r2.aX (o3 _ (by omega))).aX (o4 _ (by omega))
  have rc4 : Row H4 (n + 1 + 1) (bK A mv sv) := r3.aX (o4 _ (by omega))
  have step : ∀ (k : Nat) (w pv : a9) (h1 : Hp) (n1 : Nat), k < A.made.length + A.c8.length → Row h1 (n + 1) [.bool (iW A k)] → h1 (n + 1 + 1 + 1) = some (.loop (L67 TM)) → (∀ j, j < n + 1 + 1 + 1 + 1 → j ≠ n + 1 → j ≠ n + 1 + 1 + 1 → h1 j = H4 j) → n + 1 + 1 + 1 + 1 ≤ n1 → bO h1 n1 → w = .bool (vR A k) →
      Wp (jK env (evalW env) (.fn (.yield (n + 1 + 1 + 1)) [] []) [pv, w]) h1 n1 fun v' h' n' => ((yes true v' ∧ Row h' (n + 1) [.bool (iW A (k + 1))] ∧ h' (n + 1 + 1 + 1) = some (.loop (L67 TM)) ∧ (∀ j, j < n + 1 + 1 + 1 + 1 → j ≠ n + 1 → j ≠ n + 1 + 1 + 1 → h' j = H4 j)) ∨
        (yes false v' ∧ lU A = false ∧ Row h' (n + 1) [.bool false] ∧ (∃ l, h' (n + 1 + 1 + 1) = some (.loop l) ∧ l.state = .done ∧ l.pending = some (.exit 0)) ∧ (∀ j, j < n + 1 + 1 + 1 + 1 → j ≠ n + 1 → j ≠ n + 1 + 1 + 1 → h' j = H4 j))) ∧ ∀ j, n + 1 + 1 + 1 + 1 ≤ j → j < n1 → h' j = h1 j := by
    intro k w pv h1 n1 hk hr1 hlo hkp hn1 hf1 hw
    refine mK hlo rfl rfl ?_
    simp only [IZ, List.getD_cons_zero, lJ, List.zip_cons_cons, List.zip_nil_left, L67, TM, cQ, Try.f67, Option.getD_some, aC, fgr, execOp, opd, aD, put, nth, aB, gL, gB]
    refine ⟨_, hlo, rfl, ?_⟩
    obtain ⟨h2, hh2⟩ : ∃ h2, h2 = upd h1 (n + 1 + 1 + 1) (some (Blk.loop { L67 TM with state := .busy })) := ⟨_, rfl⟩
    have ho2 : ∀ j, j ≠ n + 1 + 1 + 1 → h2 j = h1 j := fun j hj => by rw [hh2, aP _ _ hj]
    have hlo2 : h2 (n + 1 + 1 + 1) = some (.loop { L67 TM with state := .busy }) := by rw [hh2, aW]
    have hf2 : bO h2 n1 := by rw [hh2]; exact hf1.upd (by omega)
    show Run env 67 _ _ _ _ _ (upd h1 (n + 1 + 1 + 1) (some (Blk.loop { L67 TM with state := .busy }))) n1
    rw [← hh2]
    clear hh2
    obtain ⟨e0, hr2⟩ := hr1.aX (ho2 (n + 1) (by omega))
    simp only [IU, List.getD_cons_zero, cQ, Try.f67, Option.getD_some, aC, fgr, execOp, opd, nth, gL]
    subst hw
    have rd2 : Rd (load env 4 (.ptr (n + 1) 0)) h2 n1 [n + 1] (.bool (iW A k)) := Row.one (cs := [.bool (iW A k)]) (off := 0) ⟨e0, hr2⟩ rfl ti4 rfl
    rw [aM rd2]
    simp only [aC, execOp, opd, aD, put, nth, gL]
    refine j7 (v := .bool (vR A k)) (fun _ => wp_pure.2 ⟨rfl, rfl, rfl⟩) ?_
    simp only [aC, execOp, opd, ofValue, aD, put, nth, mR]
    rw [← FH]
    rw [dR (Row.write (v := .bool (iW A (k + 1))) hr2 ti4 rfl (by show 0 + 1 ≤ 1; omega) rfl)]
    obtain ⟨h3', hh3⟩ : ∃ h3', h3' = upd h2 (n + 1) (some (.row (.l [.bool (iW A (k + 1))]) e0)) := ⟨_, rfl⟩
    show Ops _ _ _ _ _ _ _ _ (upd h2 (n + 1) (some (.row (.l [.bool (iW A (k + 1))]) e0))) _
    rw [← hh3]
    have r3' : Row h3' (n + 1) [.bool (iW A (k + 1))] := ⟨e0, by rw [hh3, aW]⟩
    have o3' : ∀ j, j ≠ n + 1 → h3' j = h2 j := fun j hj => by rw [hh3, aP _ _ hj]
    clear hh3
    have hlo3 : h3' (n + 1 + 1 + 1) = some (.loop { L67 TM with state := .busy }) := (o3' _ (by omega)).trans hlo2
    simp only [aC, fgr, execOp, opd, aD, nth, aB]
    rw [aM (r3'.one (off := 0) rfl ti4 rfl)]
    cases hfb : iW A (k + 1) with
    | true =>
      rw [hfb] at r3'
      simp only [aC, fgr, execOp, opd, aD, put, nth, aB, unOp, gB]
      refine ⟨_, hlo3, .inl ⟨.inl rfl, (r3'.upd (by omega)), aW _ _ _, fun j h1 h2 h3 => ?_⟩, fun j h1 h2 => ?_⟩
      · rw [aP _ _ h3, o3' j h2, ho2 j h3, hkp j h1 h2 h3]
      · rw [aP _ _ (by omega), o3' j (by omega), ho2 j (by omega)]
    | false =>
      rw [hfb] at r3'
      simp only [aC, bH, fgr, execOp, opd, aD, put, nth, aB, unOp, gB]
      refine ⟨_, hlo3, .inr ⟨.inl rfl, L7 hfb (by omega), (r3'.upd (by omega)), ⟨_, aW _ _ _, rfl, rfl⟩, fun j h1 h2 h3 => ?_⟩, fun j h1 h2 => ?_⟩
      · rw [aP _ _ h3, o3' j h2, ho2 j h3, hkp j h1 h2 h3]
      · rw [aP _ _ (by omega), o3' j (by omega), ho2 j (by omega)]
  have lo4 : ∀ (h1 h2 : Hp), (∀ j, j < n + 1 + 1 + 1 + 1 → h2 j = h1 j) → (∀ j, j < n + 1 + 1 + 1 + 1 → j ≠ n + 1 → j ≠ n + 1 + 1 + 1 → h1 j = H4 j) → ∀ j, j < n + 1 + 1 + 1 + 1 → j ≠ n + 1 → j ≠ n + 1 + 1 + 1 → h2 j = H4 j := fun h1 h2 q k j q1 q2 q3 => by rw [q j q1, k j q1 q2 q3]
  refine wp_mono (f113 (.fn (.yield (n + 1 + 1 + 1)) [] []) mv sv (n + 1 + 1) a b A H4 (n + 1 + 1 + 1 + 1) (by omega) (by omega) f4
    (fun k h1 => Row h1 (n + 1) [.bool (iW A k)] ∧ h1 (n + 1 + 1 + 1) = some (.loop (L67 TM)) ∧ ∀ j, j < n + 1 + 1 + 1 + 1 → j ≠ n + 1 → j ≠ n + 1 + 1 + 1 → h1 j = H4 j)
    (fun h1 => lU A = false ∧ Row h1 (n + 1) [.bool false] ∧ (∃ l, h1 (n + 1 + 1 + 1) = some (.loop l) ∧ l.state = .done ∧ l.pending = some (.exit 0)) ∧ ∀ j, j < n + 1 + 1 + 1 + 1 → j ≠ n + 1 → j ≠ n + 1 + 1 + 1 → h1 j = H4 j)
    ⟨r4, g4, fun j _ _ _ => rfl⟩ ?_ ?_ ?_ ?_ ?_) ?_
  · rintro k h1 ⟨q1, q2, q3⟩
    exact ⟨rc4.aX (q3 _ (by omega) (by omega) (by omega)), a4.aX fun j _ q => q3 j (by omega) (by omega) (by omega)⟩
  · rintro k h1 h2 ⟨q1, q2, q3⟩ q
    exact ⟨q1.aX (q _ (by omega)), (q _ (by omega)).trans q2, lo4 h1 h2 q q3⟩
  · rintro h1 h2 ⟨q0, q1, ⟨l, q2, q4, q5⟩, q3⟩ q
    exact ⟨q0, q1.aX (q _ (by omega)), ⟨l, (q _ (by omega)).trans q2, q4, q5⟩, lo4 h1 h2 q q3⟩
  · rintro k hk w h1 n1 ⟨q1, q2, q3⟩ hn1 hf1 hw
    exact step k w _ h1 n1 (by omega) q1 q2 q3 hn1 hf1 (by rw [hw]; unfold vR; rw [if_pos hk])
  · rintro k hk w h1 n1 ⟨q1, q2, q3⟩ hn1 hf1 hw
    exact step (A.made.length + k) w _ h1 n1 (by omega) q1 q2 q3 hn1 hf1 (by rw [hw]; unfold vR; rw [if_neg (by omega), Nat.add_sub_cancel_left])
  · rintro v5 h5 n5 ⟨e5, hh⟩
    rcases hh with ⟨q1, q2, q3⟩ | ⟨q0, q1, ⟨l, q2, q4, q5⟩, q3⟩
    · refine ⟨_, q2, (fun q => by cases q), .normal, rfl, ?_⟩
      replace q1 : Row h5 (n + 1) [.bool (lU A)] := q1
      simp only [aC, execOp, opd, nth]
      rw [aM ((q1.upd (i := n + 1 + 1 + 1) (by omega)).one (off := 0) rfl ti4 rfl)]
      have old5 : ∀ (b : Option Blk), Old h (upd h5 (n + 1 + 1 + 1) b) n := fun b j hj => by rw [aP _ _ (by omega), q3 j (by omega) (by omega) (by omega), old4 j hj]
      cases hcb : lU A with
      | true => simp only [aC, fgr, execOp, opd, ofValue, aD, put, nth, aB, unOp, ↓reduceIte, gB]; exact old5 _
      | false => simp only [aC, fgr, execOp, opd, ofValue, aD, put, nth, aB, unOp, ↓reduceIte, reduceCtorEq, gB]; exact old5 _
    · refine ⟨_, q2, (fun q => by rw [q4] at q; cases q), .exit 0, by rw [q5], ?_⟩
      simp only [aC, execOp, opd, nth]
      rw [aM ((q1.upd (i := n + 1 + 1 + 1) (by omega)).one (off := 0) rfl ti4 rfl)]
      have old5 : ∀ (b : Option Blk), Old h (upd h5 (n + 1 + 1 + 1) b) n := fun b j hj => by rw [aP _ _ (by omega), q3 j (by omega) (by omega) (by omega), old4 j hj]
      rw [q0]
      simp only [aC, fgr, execOp, opd, ofValue, aD, put, nth, aB, unOp, ↓reduceIte, reduceCtorEq, gB]; exact old5 _
structure Ixw (K T : Nat → Prop) (h : Hp) (n x : Nat) (L : List Ver) : Prop where
  ix : ∃ D M, Ix h n D M x L ∧ (∀ j, K j → j < n ∧ ¬ M j) ∧ ∀ j, T j → j < n ∧ ¬ D j
  g : ∀ v ∈ L, Good v
variable {K T : Nat → Prop} {h h' : Hp} {n n' x : Nat} {L : List Ver}
theorem Ixw.rL (s : Ixw K T h n x L) : dM false L := by
  obtain ⟨⟨D, M, i, _⟩, _⟩ := s
  exact i.r
theorem Ixw.ok (s : Ixw K T h n x L) : ∀ v ∈ L, v.Ok ∧ v.aR.length ≤ 1000000 := by
  obtain ⟨⟨D, M, i, _⟩, _⟩ := s
  exact i.ok
theorem Ixw.sub {K' : Nat → Prop} (s : Ixw K T h n x L) (hk : ∀ j, K' j → K j) : Ixw K' T h n x L := by
  obtain ⟨⟨D, M, i, q, t⟩, g⟩ := s
  exact ⟨⟨D, M, i, fun j hj => q j (hk j hj), t⟩, g⟩
theorem Ixw.grow (s : Ixw K T h n x L) (hn : n ≤ n') (ho : Old h h' n) : Ixw (fun j => K j ∨ (n ≤ j ∧ j < n')) T h' n' x L := by
  obtain ⟨⟨D, M, i, q, t⟩, g⟩ := s
  refine ⟨⟨D, M, i.old hn ho, fun j hj => ?_, fun j hj => ⟨by have := (t j hj).1; omega, (t j hj).2⟩⟩, g⟩
  rcases hj with hj | hj
  · exact ⟨by have := (q j hj).1; omega, (q j hj).2⟩
  · obtain ⟨⟨S, ⟨vl, vs, xl, xs, iv, mx, ml, ms, mn⟩, _⟩, _⟩ := i
    exact ⟨hj.2, fun w => by have := (mn j w).1; omega⟩
theorem Ixw.old (s : Ixw K T h n x L) (hn : n ≤ n') (ho : Old h h' n) : Ixw K T h' n' x L := (s.grow hn ho).sub fun j q => .inl q
theorem Chg.w {D M D' M' : Nat → Prop} (c : Chg h n D M h' n' D' M') (q : ∀ j, K j → j < n ∧ ¬ M j) (t : ∀ j, T j → j < n ∧ ¬ D j) : (∀ j, K j → h' j = h j) ∧ (∀ j, K j → j < n' ∧ ¬ M' j) ∧ ∀ j, T j → j < n' ∧ ¬ D' j := by
  refine ⟨fun j hj => c.old j (q j hj).1 (q j hj).2, fun j hj => ⟨by have := (q j hj).1; have := c.nx; omega, fun w => ?_⟩, fun j hj => ⟨by have := (t j hj).1; have := c.nx; omega, fun w => ?_⟩⟩
  · have := q j hj
    rcases c.m' j w with w | w
    · exact this.2 w
    · omega
  · have := t j hj
    rcases c.d' j w with w | w
    · exact this.2 w
    · omega
theorem f33w (v : Ver) (sv : a9) (ov : v.Ok) (hpn : 0 ≤ v.pn) (hsl : v.aR.length ≤ 1000000) (hs : Ixw K T h n x L) (hb : Bytes h sv v.aR) (hsn : ∀ j, bB sv = some j → j < n) (hc : L.length ≤ 900000) (hf : bO h n) :
    Wp (bD env (evalW env) 33 [.ptr x 0, .agg (aO v sv)]) h n fun v' h' n' => (∀ j, K j → h' j = h j) ∧ ((AA v L ∧ v' = .int .i64 210 ∧ Ixw K T h' n' x L) ∨ (¬ AA v L ∧ v' = .int .i64 0 ∧ Ixw K T h' n' x (mP L v))) := by
  obtain ⟨⟨D, M, i, q, t⟩, g⟩ := hs
  refine wp_mono (f33 x v sv ov hsl L D M h n i hb hsn hc hf) fun v' h' n' hh => ?_
  rcases hh with ⟨a, b, i', c⟩ | ⟨a, b, D', M', i', c⟩
  · exact ⟨(c.w q t).1, .inl ⟨a, b, ⟨⟨_, _, i', (c.w q t).2⟩, g⟩⟩⟩
  · refine ⟨(c.w q t).1, .inr ⟨a, b, ⟨⟨_, _, i', (c.w q t).2⟩, fun w hw => ?_⟩⟩⟩
    rcases B4.1 hw with rfl | hw
    · refine ⟨?_, hpn⟩
      cases e : uG w with
      | false => rfl
      | true => exact absurd (.inl e) a
    · exact g w hw
theorem f34w (hash : List UInt8) (pn made : Int) (hl : hash.length = 32) (hs : Ixw K T h n x L) (hc : L.length ≤ 900000) (hf : bO h n) :
    Wp (bD env (evalW env) 34 [.ptr x 0, .agg (aY hash pn), .int .i64 made]) h n fun v' h' n' => (∀ j, K j → h' j = h j) ∧ (((∀ w ∈ L, fM w (key hash pn made) ≠ 0) ∧ v' = .int .i64 210 ∧ Ixw K T h' n' x L) ∨ ∃ w, w ∈ L ∧ fM w (key hash pn made) = 0 ∧ v' = .int .i64 0 ∧ Ixw K T h' n' x (kP L w)) := by
  obtain ⟨⟨D, M, i, q, t⟩, g⟩ := hs
  refine wp_mono (f34 x hash pn made hl L D M h n i (by omega) hf) fun v' h' n' ⟨hh, c⟩ => ?_
  rcases hh with ⟨a, b, i'⟩ | ⟨w, a, b, e, i'⟩
  · exact ⟨(c.w q t).1, .inl ⟨a, b, ⟨⟨_, _, i', (c.w q t).2⟩, g⟩⟩⟩
  · exact ⟨(c.w q t).1, .inr ⟨w, a, b, e, ⟨⟨_, _, i', (c.w q t).2⟩, fun u hu => g u (HN hu)⟩⟩⟩
theorem f36w (hash : List UInt8) (pn made s : Int) (b : List UInt8) (hl : hash.length = 32) (hbl : b.length = 32) (hs : Ixw K T h n x L) (hc : L.length ≤ 900000) (hf : bO h n) :
    Wp (bD env (evalW env) 36 [.ptr x 0, .agg (aY hash pn), .int .i64 made, .int .i64 s, .agg (b.map u8)]) h n fun v' h' n' => (∀ j, K j → h' j = h j) ∧
      (((∀ w ∈ L, fM w (key hash pn made) = 0 → (w.bZ ≠ 0 ∨ s < 1 ∨ s < made)) ∧ v' = .int .i64 210 ∧ Ixw K T h' n' x L) ∨
      (∃ w ∈ L, fM w (key hash pn made) = 0 ∧ w.bZ = 0 ∧ 1 ≤ s ∧ made ≤ s ∧ v' = .int .i64 0 ∧ Ixw K T h' n' x (qB L w (gQ w s b)))) := by
  have rL := hs.rL
  obtain ⟨⟨D, M, i, q, t⟩, g⟩ := hs
  refine wp_mono (f36 x hash pn made s b hl hbl L D M h n i hc hf) fun v' h' n' hh => ?_
  rcases hh with ⟨a, e, i', c⟩ | ⟨w, hw, a1, a2, a3, a4, e, D', M', i', c⟩
  · exact ⟨(c.w q t).1, .inl ⟨a, e, ⟨⟨_, _, i', (c.w q t).2⟩, g⟩⟩⟩
  · rw [FL rL hw] at i'
    refine ⟨(c.w q t).1, .inr ⟨w, hw, a1, a2, a3, a4, e, ⟨⟨_, _, i', (c.w q t).2⟩, fun u hu => ?_⟩⟩⟩
    rcases rG hu with rfl | hu
    · exact yU (g w hw) (.inr ⟨a3, by rw [(yV a1).2.2]; exact a4⟩)
    · exact g u hu
theorem f38w (hash : List UInt8) (pn made : Int) (hl : hash.length = 32) (hs : Ixw K T h n x L) (hc : L.length ≤ 900000) (hf : bO h n) :
    Wp (bD env (evalW env) 38 [.ptr x 0, .agg (aY hash pn), .int .i64 made]) h n fun v' h' n' => (∀ j, K j → h' j = h j) ∧
      (((∀ w ∈ L, fM w (key hash pn made) = 0 → w.bZ = 0) ∧ v' = .int .i64 210 ∧ Ixw K T h' n' x L) ∨
      (∃ w ∈ L, fM w (key hash pn made) = 0 ∧ w.bZ ≠ 0 ∧ v' = .int .i64 0 ∧ Ixw K T h' n' x (qB L w (gQ w 0 z32)))) := by
  have rL := hs.rL
  obtain ⟨⟨D, M, i, q, t⟩, g⟩ := hs
  refine wp_mono (f38 x hash pn made hl L D M h n i hc hf) fun v' h' n' hh => ?_
  rcases hh with ⟨a, e, i', c⟩ | ⟨w, hw, a1, a2, e, D', M', i', c⟩
  · exact ⟨(c.w q t).1, .inl ⟨a, e, ⟨⟨_, _, i', (c.w q t).2⟩, g⟩⟩⟩
  · rw [FL rL hw] at i'
    refine ⟨(c.w q t).1, .inr ⟨w, hw, a1, a2, e, ⟨⟨_, _, i', (c.w q t).2⟩, fun u hu => ?_⟩⟩⟩
    rcases rG hu with rfl | hu
    · exact yU (g w hw) (.inl rfl)
    · exact g u hu
theorem Ixw.k (s : Ixw K T h n x L) : Ixk (fun _ => False) h n x L := by
  obtain ⟨⟨D, M, i, q, t⟩, g⟩ := s
  exact ⟨⟨D, M, i, fun j q => q.elim⟩, g⟩
theorem xF {E : Env} {h : Hp} {n : Nat} {t t2 e : TypeId} {i : TI} {s x : a9} {cnt k : Nat} {xs ys : List a9} (hs : Lst h e i.size s cnt xs) (hx : Rds h i.size x k ys)
    (ht : und E t = M.pure (.slice e)) (ht2 : und E t2 = M.pure (.slice e)) (hi : ti E e = M.pure i) (hk : 0 < k)
    (hroom : 2 * (cnt + k) * i.bytes ≤ 281474976710656) (hroom2 : cnt + k ≤ 281474976710656) :
    Wp (fR E [t, t2] (tZ cnt s) x) h n fun v' h' n' => v' = .sl n 0 (cnt + k) none i.size ∧ h' = upd h n (some (.row (.l (xs ++ ys)) e)) ∧ n' = n + 1 := by
  simp only [fR, ht2, bind_pure, fH, append, ht, hi, hx.len, gM]
  have hk0 : k.beq 0 = false := jW (by omega)
  simp only [hk0]
  refine eQ hx.cells ?_
  have r1 : ((2 * (cnt + k) * i.bytes).ble room && (cnt + k).ble room) = true := by
    unfold room
    rw [dC hroom, dC hroom2]; rfl
  have hc := hs.cut (Nat.le_refl cnt)
  rw [List.take_of_length_le (by rw [hs.rds.length]; exact Nat.le_refl _)] at hc
  have hrd := hc.rds.cells (n := n)
  cases hs with
  | nil =>
    rw [Nat.zero_add] at r1
    simp only [tZ, grown, eY, iH, wp_pure, r1, List.nil_append, Nat.zero_add, and_self]
  | sl id cnt cap cells xs hh hl hcc hxs =>
    have hf2 : (cnt + k).ble cnt = false := iB (by omega)
    simp only [tZ, bR, Nat.beq_refl, fI, hh, Option.some.injEq, exists_eq_left', cX, gM, hf2]
    refine eQ hrd ?_
    simp only [grown, eY, iH, wp_pure, r1, and_self]
structure Inf where
  bT : Int
  block : List UInt8
  jD : Int
  total : Int
  eW : Int
  left : Int
def bX (i : Inf) : List a9 := .int .i64 i.bT :: (i.block.map u8 ++ [.int .i64 i.jD, .int .i64 i.total, .int .i64 i.eW, .int .i64 i.left])
def gP : Inf := ⟨0, z32, 0, 0, 0, 0⟩
theorem cE {i : Inf} (hb : i.block.length = 32) : (bX i).length = 37 := by simp [bX, hb]
theorem fL (i : Inf) : (bX i).all bN = true := by
  unfold bX
  rw [List.all_cons, List.all_append, List.all_map]
  simp [u8, bN]
theorem lO {i : Inf} (hb : i.block.length = 32) (k : Nat) : (bX i)[33 + k]? = [a9.int .i64 i.jD, .int .i64 i.total, .int .i64 i.eW, .int .i64 i.left][k]? := by
  unfold bX
  rw [show 33 + k = 32 + k + 1 by omega, List.getElem?_cons_succ, List.getElem?_append_right (by simp [hb]), List.length_map, hb]
  congr 1; omega
structure IL (h : Hp) (v : a9) (I : List Inf) : Prop where
  ex : ∃ cells, Lst h 61 37 v I.length cells ∧ ∀ (j : Nat) (hj : j < I.length), (cells.drop (j * 37)).take 37 = bX I[j] ∧ I[j].block.length = 32
theorem IL.aX {h h' : Hp} {v : a9} {I : List Inf} (l : IL h v I) (hk : ∀ j, bB v = some j → h' j = h j) : IL h' v I := by
  obtain ⟨cells, c1, c2⟩ := l
  exact ⟨cells, c1.aX hk, c2⟩
theorem u57 : und env 57 = M.pure (.slice 61) := rfl
theorem Q8 : sizeOf env 61 = M.pure 37 := rfl
theorem IL.len {h : Hp} {v : a9} {I : List Inf} (l : IL h v I) {ts : List TypeId} : cY env (57 :: ts) v = M.pure (.int .i64 (I.length : Nat)) := by
  obtain ⟨cells, c1, c2⟩ := l
  exact c1.rds.cY u57
theorem IL.kind {h : Hp} {v : a9} {I : List Inf} (l : IL h v I) : v.cells = [v] ∧ bN v = true ∧ eD v = false := by
  obtain ⟨cells, c1, c2⟩ := l
  exact c1.rds.kind
theorem IL.idx {h : Hp} {v : a9} {I : List Inf} (l : IL h v I) {i : Nat} (hi : i < I.length) {h' : Hp} {n' : Nat} : Rd (indexAddr env 57 v (.int .i64 ((i : Nat) : Int))) h' n' [] (addrOf (i * 37) v) := by
  obtain ⟨cells, c1, c2⟩ := l
  exact c1.rds.idx u57 Q8 rfl hi
theorem IL.all {h : Hp} {n : Nat} {v : a9} {I : List Inf} (l : IL h v I) {i : Nat} (hi : i < I.length) : I[i].block.length = 32 ∧ Rd (load env 61 (addrOf (i * 37) v)) h n (rid v) (.agg (bX I[i])) := by
  obtain ⟨cells, c1, c2⟩ := l
  obtain ⟨e, o⟩ := c2 i hi
  refine ⟨o, ?_⟩
  have hl : cells.length = I.length * 37 := c1.rds.length
  have := c1.rds.agg (E := env) (n := n) (k := i * 37) iI rfl (by decide) (by show i * 37 + 37 ≤ _; omega)
  have e' : (cells.drop (i * 37)).take 37 = bX I[i] := e
  exact e' ▸ this
theorem IL.live {h : Hp} {n : Nat} {v : a9} {I : List Inf} (l : IL h v I) (hf : bO h n) {j : Nat} (hj : bB v = some j) : j < n := by
  obtain ⟨cells, c1, c2⟩ := l
  exact c1.live hf hj
theorem IL.nil {h : Hp} : IL h .aV [] := ⟨[], .nil, fun j hj => by simp at hj⟩
structure St (W : Nat → Prop) (h : Hp) (n s : Nat) (L : List Ver) (I : List Inf) : Prop where
  ex : ∃ x lv, Row h s [.ptr x 0, lv] ∧ Ixw W W h n x L ∧ IL h lv I ∧ (∀ j, bB lv = some j → j < n ∧ ¬ W j) ∧ W s ∧ ∀ j, W j → j < n
theorem St.sn {W : Nat → Prop} {h : Hp} {n s : Nat} {L : List Ver} {I : List Inf} (q : St W h n s L I) : s < n := by
  obtain ⟨x, lv, r, i, l, a, b, c⟩ := q
  exact c s b
theorem St.rL {W : Nat → Prop} {h : Hp} {n s : Nat} {L : List Ver} {I : List Inf} (q : St W h n s L I) : dM false L := by
  obtain ⟨x, lv, r, i, l, a, b, c⟩ := q
  exact i.rL
theorem St.next {W : Nat → Prop} {h h' : Hp} {n n' s : Nat} {L : List Ver} {I : List Inf} (q : St W h n s L I) (hn : n ≤ n') (hk : ∀ j, j < n → (j = s ∨ ¬ W j) → h' j = h j) : St W h' n' s L I := by
  obtain ⟨x, lv, r, ⟨⟨D, M, i, k, t⟩, g⟩, l, a, b, c⟩ := q
  have in_ : ∀ j, j < n → (D j ∨ M j) → h' j = h j := fun j hj w => hk j hj (.inr fun y => by
    rcases w with w | w
    · exact (t j y).2 w
    · exact (k j y).2 w)
  exact ⟨x, lv, r.aX (hk s (c s b) (.inl rfl)), ⟨⟨D, M, i.beside hn in_, fun j y => ⟨by have := c j y; omega, (k j y).2⟩, fun j y => ⟨by have := c j y; omega, (t j y).2⟩⟩, g⟩, l.aX fun j y => hk j (a j y).1 (.inr (a j y).2), fun j y => ⟨by have := (a j y).1; omega, (a j y).2⟩, b, fun j y => by have := c j y; omega⟩
theorem St.old {W : Nat → Prop} {h h' : Hp} {n n' s : Nat} {L : List Ver} {I : List Inf} (q : St W h n s L I) (hn : n ≤ n') (ho : Old h h' n) : St W h' n' s L I := q.next hn fun j hj _ => ho j hj
theorem f66 (s x : Nat) (lv : a9) (h : Hp) (n : Nat) (hr : Row h s [.ptr x 0, lv]) : Wp (bD env (evalW env) 66 [.ptr s 0]) h n fun v' h' n' => v' = .bool false ∧ h' = h ∧ n' = n := by
  refine bL VS VQ ?_
  simp only [DQ, Try.f66, Option.getD_some, List.replicate, aC, tyr, fgr, execOp, opd, ofValue, aD, put, nth, aB, und, sizeOf, bor, bE, dG, dU, nilCheck, aZ, ended, aT, aU, aS, fieldAddr, bJ, equal, cZ, cH, cJ, Nat.reduceSub, gL, gB, gI]
  rw [aM (hr.one (off := 0) rfl qA rfl)]
  simp only [aC, tyr, fgr, execOp, opd, ofValue, aD, put, nth, aB, und, bor, bE, dG, dU, bC, branch, bJ, equal, cZ, cH, cJ, gL, gB]
theorem NF (s x : Nat) (lv : a9) (I : List Inf) (h : Hp) (n : Nat) (hr : Row h s [.ptr x 0, lv]) (hi : IL h lv I) (hc : I.length ≤ 1000000) : Rd (Ins.zB [.ptr s 0]) h n [s] (.int .i64 ((I.length : Nat) - 1)) := by
  obtain ⟨t, hr⟩ := hr
  obtain ⟨cells, c1, c2⟩ := hi
  have key : Rd ((fT s).bind (cX fun c _ => match c with
          | .l cs => match cs with
            | [x, lv] => match x with
              | .ptr _ _ => match lv with
                | .aV => M.pure (a9.int .i64 (-1))
                | .sl _ _ len _ _ => match len.ble 1000000 with
                  | true => M.pure (.int .i64 ((len : Nat) - 1))
                  | false => fail "Tip"
                | _ => fail "Tip"
              | _ => fail "Tip"
            | _ => fail "Tip"
          | _ => fail "Tip")) h n ([] ++ [s]) (.int .i64 ((I.length : Nat) - 1)) := by
    refine Rd.bind (Rd.get hr) ?_
    clear c2; generalize hI : I.length = len at *
    cases c1 with
    | nil => exact Rd.pure _
    | sl id cnt cap cells xs hh hl hcc hx =>
      simp only [cX, dC hc]
      exact Rd.pure _
  exact key
theorem RC {W : Nat → Prop} {h : Hp} {n s : Nat} {L : List Ver} {I : List Inf} (q : St W h n s L I) (hc : I.length ≤ 1000000) : Rd (Ins.zB [.ptr s 0]) h n [s] (.int .i64 ((I.length : Nat) - 1)) := by
  obtain ⟨x, lv, r, i, l, a, b, c⟩ := q
  exact NF s x lv I h n r l hc
theorem f70 (v : a9) (I : List Inf) (h0 h : Hp) (n : Nat) (hv : IL h0 v I) : Wp (bD env (evalW env) 70 [v]) h n fun v' h' n' => v' = tZ I.length v ∧ h' = h ∧ n' = n := by
  refine bL ff70 fi70 ?_
  simp only [US, Try.f70, Option.getD_some, List.replicate, aC, fgr, execOp, opd, bG, opt, ofValue, aD, put, nth, aB, aL, builtin, dH, ended, aT, aU, Nat.reduceSub, hv.len, gL, gI]
  obtain ⟨cells, c1, c2⟩ := hv
  rw [aM (c1.VX u57 Q8 rfl (Nat.le_refl _))]
  simp only [aC, fgr, execOp, opd, aD, put, nth, aB, gB]
theorem U5 {h : Hp} {v : a9} {I : List Inf} {cells : List a9} (c1 : Lst h 61 37 v I.length cells) (c2 : ∀ (j : Nat) (hj : j < I.length), (cells.drop (j * 37)).take 37 = bX I[j] ∧ I[j].block.length = 32) : cells.all bN = true := by
  rw [List.all_eq_true]
  intro c hc
  obtain ⟨k, hk, rfl⟩ := List.mem_iff_getElem.1 hc
  have hl : cells.length = I.length * 37 := c1.rds.length
  have hj : k / 37 < I.length := by omega
  have e := (c2 (k / 37) hj).1
  have hp := piece e (i := k % 37) (by omega)
  rw [show k / 37 * 37 + k % 37 = k by omega, List.getElem?_eq_getElem hk] at hp
  exact List.all_eq_true.1 (fL I[k / 37]) _ (List.mem_of_getElem? hp.symm)
theorem f71 (v : a9) (I : List Inf) (h : Hp) (n : Nat) (hv : IL h v I) (hc : I.length ≤ 1000000) (hf : bO h n) :
    Wp (bD env (evalW env) 71 [v]) h n fun v' h' n' => IL h' v' I ∧ (∀ j, bB v' = some j → n ≤ j ∧ j < n') ∧ Old h h' n := by
  obtain ⟨cells, c1, c2⟩ := hv
  have h1 := U5 c1 c2
  refine bL ff71 fi71 ?_
  obtain ⟨en, en2⟩ := c1.BY u57
  simp only [UR, Try.f71, Option.getD_some, List.replicate, aC, fgr, execOp, opd, ofValue, aD, put, nth, aB, ended, aT, aU, Nat.reduceSub, en, gL, gI]
  cases hnil : lN v with
  | true =>
    obtain ⟨e1, e2, e3⟩ := en2 hnil
    have : I = [] := List.eq_nil_of_length_eq_zero e2
    subst this
    simp only [aC, fgr, execOp, opd, ofValue, aD, put, nth, aB, gB]
    exact ⟨.nil, (fun j q => by cases q), Old.refl _ _⟩
  | false =>
    simp only [aC, tyr, execOp, dE, und, aZ, buildSlice, fQ, fill, Nat.ble, gI]
    refine j4 iI hf (f := fun id => a9.sl id 0 0 (some 0) 37) fun H r o f => ?_
    simp only [aC, execOp, opd, bG, aD, put, nth, aL, builtin, fC]
    have c1' := c1.aX (h' := H) fun j q => o j (by have := c1.live hf q; omega)
    refine fU (i := sW.i) (e := 61) (cnt := 0) (xs := []) (.sl n 0 (some 0) [] [] r (by simp) (fun k hk => by injection hk with hk; subst hk; simp) (by simp)) c1'.rds u57 u57 iI h1 (by decide) (by show 2 * (0 + I.length) * 72 ≤ _; omega) (by omega) f ?_
    intro v' h' n' hn' f' l' hid hk
    simp only [aC, fgr, execOp, opd, aD, put, nth, aB, gB]
    rw [Nat.zero_add, List.nil_append] at l'
    refine ⟨⟨cells, l', c2⟩, fun j q => ?_, fun j hj => ?_⟩
    · rcases hid with w | ⟨w, w2⟩
      · rw [w] at q; injection q with q; subst q; exact ⟨Nat.le_refl _, by omega⟩
      · rw [w] at q; injection q with q; subst q; exact ⟨by omega, w2⟩
    · rw [hk j (by omega) (fun e => by injection e with e; omega), o j (by omega)]
theorem f26 (W : Nat → Prop) (h : Hp) (n : Nat) (hf : bO h n) (hw : ∀ j, W j → j < n) : Wp (bD env (evalW env) 26 []) h n fun v' h' n' => ∃ s, v' = .ptr s 0 ∧ n ≤ s ∧ St (fun j => W j ∨ j = s) h' n' s [] [] ∧ Old h h' n := by
  refine bL ff26 fi26 ?_
  simp only [VE, Try.f26, Option.getD_some, List.replicate, aC, fgr, hkr, execOp, opd, bG, ofValue, aD, put, aB, aL, aE, ended, aT, aU, Nat.reduceSub, gL, gI]
  refine bF hf (f40 h n hf) fun v1 h1 n1 hn1 f1 ⟨x, e1, hx, i1, o1⟩ => ?_
  subst e1
  have b59 : build env 59 [(0, .ptr x 0)] = M.pure (.agg [.ptr x 0, .aV]) := rfl
  simp only [aC, execOp, opd, dE, aD, put, nth, b59]
  refine dA (v := .agg [.ptr x 0, .aV]) N6 rfl f1 fun H2 r2 o2 f2 => ?_
  simp only [aC, fgr, execOp, opd, aD, put, nth, aB, gB]
  replace r2 : Row H2 n1 [.ptr x 0, .aV] := r2
  have xlt := i1.xlt
  refine ⟨n1, rfl, by omega, ⟨x, .aV, r2, ⟨⟨_, _, i1.old (by omega) (fun j hj => o2 j (by omega)), fun j y => ⟨?_, fun w => ?_⟩, fun j y => ⟨?_, fun w => w⟩⟩, fun v hv => by cases hv⟩, .nil, (fun j y => by cases y), .inr rfl, fun j y => ?_⟩, fun j hj => by rw [o2 j (by omega), o1 j hj]⟩
  · rcases y with y | y
    · have := hw j y; omega
    · omega
  · rcases y with y | y
    · have := hw j y; omega
    · omega
  · rcases y with y | y
    · have := hw j y; omega
    · omega
  · rcases y with y | y
    · have := hw j y; omega
    · omega
theorem f24 {W : Nat → Prop} {h : Hp} {n s : Nat} {L : List Ver} {I : List Inf} (q : St W h n s L I) (hc : L.length ≤ 900000) (hf : bO h n) :
    Wp (bD env (evalW env) 24 [.ptr s 0]) h n fun v' h' n' => VL h' n n' v' L ∧ Old h h' n := by
  obtain ⟨x, lv, r, i, l, a, b, c⟩ := q
  refine bL ff24 fi24 ?_
  simp only [VG, Try.f24, Option.getD_some, List.replicate, aC, fgr, hkr, execOp, opd, bG, ofValue, aD, put, nth, aB, aL, aE, ended, aT, aU, Nat.reduceSub, gL, gI]
  refine eL (f66 s x lv h n r) ?_
  simp only [aC, tyr, fgr, execOp, opd, aD, put, nth, aB, und, sizeOf, nilCheck, aZ, aS, fieldAddr, gL, gI]
  rw [aM (r.one (off := 0) rfl qA rfl)]
  simp only [aC, hkr, execOp, opd, bG, aD, put, nth, aL, aE, gL]
  refine bF hf (ab7 i.k hc hf) fun v1 h1 n1 hn1 f1 ⟨l1, o1⟩ => ?_
  simp only [aC, fgr, execOp, opd, aD, put, nth, aB, gB]
  exact ⟨l1, o1⟩
theorem OF (Q : eJ) (ks : List Kf) (Y lv : a9) (c s x : Nat) (I : List Inf) (hc : I.length ≤ 1000000) (P : Nat → Hp → Nat → Prop) (R : Hp → Nat → Prop)
    (hP : ∀ k h n, P k h n → Row h c [.ptr s 0] ∧ Row h s [.ptr x 0, lv] ∧ IL h lv I ∧ bO h n)
    (hY : ∀ (k : Nat) (hk : k < I.length) (h : Hp) (n : Nat), P k h n → Wp (jK env (evalW env) Y [.agg (bX I[k])]) h n fun v' h' n' => (yes true v' ∧ P (k + 1) h' n') ∨ (yes false v' ∧ R h' n'))
    (hT : ∀ (h : Hp) (n : Nat) (tm : List a9), P I.length h n → dV env 102 none Q ks (.exit 0) tm h n)
    (hR : ∀ (h : Hp) (n : Nat) (tm : List a9), R h n → dV env 102 none Q ks .ret tm h n) :
    ∀ (m i : Nat) (h : Hp) (n : Nat) (x3 x10 x21 : a9), i + m = I.length → P i h n →
      Run env 102 none Q (.loop A4) ks (Y :: .ptr c 0 :: a9.aA :: x3 :: a9.aA :: a9.aA :: a9.aA :: a9.aA :: .int .i64 (I.length : Nat) :: .int .i64 (i : Nat) :: x10 :: a9.aA :: a9.aA :: a9.aA :: a9.aA :: a9.aA :: a9.aA :: a9.aA :: a9.aA :: a9.aA :: a9.aA :: x21 :: a9.aA :: []) h n := by
  intro m
  induction m with
  | zero =>
    intro i h n x3 x10 x21 hm hp
    have : i = I.length := by omega
    subst this
    rw [cF]
    have hcc : ¬ (((I.length : Nat) : Int) < ((I.length : Nat) : Int)) := by omega
    simp only [A4, bS, Try.f102, Option.getD_some, aC, fgr, execOp, opd, aD, put, nth, aB, bor, aJ, aK, intOp, List.getD_cons_zero, hcc, gL, gB]
    exact hT h n _ hp
  | succ m ih =>
    intro i h n x3 x10 x21 hm hp
    obtain ⟨rc, rs, il, hf⟩ := hP i h n hp
    have hil : i < I.length := by omega
    have hcc : (((i : Nat) : Int) < ((I.length : Nat) : Int)) := by omega
    have w1 : IntKind.i64.wrap (((i : Nat) : Int) + 1) = ((i + 1 : Nat) : Int) := by rw [w64 (by omega) (by omega)]; omega
    have hYi := hY i hil
    obtain ⟨ok, hld⟩ := il.all (n := n) hil
    rw [cF]
    simp only [A4, bS, Try.f102, Option.getD_some, aC, fgr, execOp, opd, aD, put, nth, aB, bor, aJ, aK, intOp, List.getD_cons_zero, hcc, gL, gB]
    rw [aM (rc.one (off := 0) rfl G3 rfl)]
    simp only [aC, tyr, execOp, opd, aD, put, nth, und, sizeOf, nilCheck, aZ, aS, fieldAddr, gL, gI]
    rw [aM (rs.one (off := 1) rfl sX rfl)]
    simp only [aC, execOp, opd, aD, put, nth]
    rw [aM (il.idx hil)]
    simp only [aC, execOp, opd, aD, put, nth]
    rw [aM hld]
    simp only [aC, execOp, opd, bG, aD, put, nth, aL]
    refine bF hf (hYi h n hp) fun v4 h4 n4 hn4 f4 hh => ?_
    rcases hh with ⟨e4 | e4, hp4⟩ | ⟨e4 | e4, hr4⟩
    · subst e4
      simp only [aC, fgr, execOp, opd, ofValue, aD, put, nth, aB, bor, aJ, aK, intOp, bU, unOp, w1, gB]
      exact ih (i + 1) h4 n4 _ _ _ (by omega) hp4
    · subst e4
      simp only [aC, fgr, execOp, opd, ofValue, aD, put, nth, aB, bor, aJ, aK, intOp, bU, unOp, w1, gB]
      exact ih (i + 1) h4 n4 _ _ _ (by omega) hp4
    · subst e4
      simp only [aC, fgr, execOp, opd, aD, put, nth, aB, unOp, gB]
      exact hR h4 n4 _ hr4
    · subst e4
      simp only [aC, fgr, execOp, opd, aD, put, nth, aB, unOp, gB]
      exact hR h4 n4 _ hr4
theorem f102 (Y lv : a9) (c s x : Nat) (I : List Inf) (h : Hp) (n : Nat) (hc : I.length ≤ 1000000) (P : Nat → Hp → Nat → Prop) (R : Hp → Nat → Prop) (h0 : P 0 h n)
    (hP : ∀ k h n, P k h n → Row h c [.ptr s 0] ∧ Row h s [.ptr x 0, lv] ∧ IL h lv I ∧ bO h n)
    (hY : ∀ (k : Nat) (hk : k < I.length) (h : Hp) (n : Nat), P k h n → Wp (jK env (evalW env) Y [.agg (bX I[k])]) h n fun v' h' n' => (yes true v' ∧ P (k + 1) h' n') ∨ (yes false v' ∧ R h' n')) :
    Wp (bD env (evalW env) 102 [Y, .ptr c 0]) h n fun v' h' n' => v' = .tup [] ∧ (P I.length h' n' ∨ R h' n') := by
  obtain ⟨rc, rs, il, hf⟩ := hP 0 h n h0
  refine bL ab4 ZC ?_
  simp only [L5, Try.f102, Option.getD_some, List.replicate, aC, execOp, opd, nth, ended, aT, aU, Nat.reduceAdd, Nat.reduceSub, gL, gB, gI]
  rw [aM (rc.one (off := 0) rfl G3 rfl)]
  simp only [aC, tyr, execOp, opd, aD, put, nth, und, sizeOf, nilCheck, aZ, aS, fieldAddr, gL, gI]
  rw [aM (rs.one (off := 1) rfl sX rfl)]
  simp only [aC, fgr, execOp, opd, bG, ofValue, aD, put, nth, aB, aL, builtin, dH, il.len]
  refine OF _ _ Y lv c s x I hc P R hP hY ?_ ?_ I.length 0 h n _ _ _ (by omega) h0
  · intro h4 n4 tm p4
    simp only [aC, true_and]
    exact .inl p4
  · intro h4 n4 tm r4
    simp only [aC, true_and]
    exact .inr r4
theorem f72 (s : Nat) (h : Hp) (n : Nat) (hf : bO h n) : Wp (bD env (evalW env) 72 [.ptr s 0]) h n fun v' h' n' => v' = .fn (.func 102) [] [.ptr n 0] ∧ Row h' n [.ptr s 0] ∧ (∀ j, j ≠ n → h' j = h j) ∧ n' = n + 1 := by
  refine bL ff72 fi72 ?_
  simp only [UQ, Try.f72, Option.getD_some, List.replicate, aC, execOp, opd, nth, ended, aT, aU, Nat.reduceSub, gL, gI]
  refine dA (v := .ptr s 0) G3 rfl hf fun H1 r1 o1 f1 => ?_
  simp only [aC, fgr, execOp, opd, bG, ofValue, aD, put, nth, aB, gB]
  exact ⟨r1, o1⟩
def kG (I : List Inf) (z : Int) : Option Inf := I.find? fun i => decide (i.bT = z)
theorem GY {I : List Inf} {z : Int} (h : ∀ i (hi : i < I.length), I[i].bT ≠ z) : kG I z = none := by
  unfold kG
  rw [List.find?_eq_none]
  intro i hi
  obtain ⟨k, hk, rfl⟩ := List.mem_iff_getElem.1 hi
  simpa using h k hk
theorem GX {I : List Inf} {z : Int} {k : Nat} (hk : k < I.length) (h : ∀ i (hi : i < I.length), i < k → I[i].bT ≠ z) (hz : I[k].bT = z) : kG I z = some I[k] := by
  unfold kG
  rw [List.find?_eq_some_iff_getElem]
  exact ⟨by simpa using hz, k, hk, rfl, fun j hj => by simpa using h j (by omega) hj⟩
def rW (o : Option Inf) : Int := match o with
  | some _ => 0
  | none => 221
noncomputable def L25 (tm : List a9) : kI := { state := .ready, pending := none, fn := 25, tmps := tm, params := [14], assign := J3, body := IY }
theorem fV : gP.block.length = 32 := rfl
theorem f25 {W : Nat → Prop} {h : Hp} {n s : Nat} {L : List Ver} {I : List Inf} (q : St W h n s L I) (z : Int) (hc : I.length ≤ 1000000) (hf : bO h n) :
    Wp (bD env (evalW env) 25 [.ptr s 0, .int .i64 z]) h n fun v' h' n' => v' = .tup [.agg (bX ((kG I z).getD gP)), .int .i64 (rW (kG I z))] ∧ ((kG I z).getD gP).block.length = 32 ∧ Old h h' n := by
  obtain ⟨x, lv, r, i, il, a, b, c⟩ := q
  have sn := c s b
  refine bL ff25 fi25 ?_
  simp only [VF, Try.f25, Option.getD_some, List.replicate, aC, execOp, opd, nth, ended, aT, aU, Nat.reduceAdd, Nat.reduceSub, gL, gI]
  refine dA (v := .int .i64 z) ti3 rfl hf fun H1 r1 o1 f1 => ?_
  replace r1 : Row H1 n [.int .i64 z] := r1
  simp only [aC, execOp, aD, put]
  rw [cD iI rfl]
  obtain ⟨H2, hH2⟩ : ∃ H2, H2 = upd H1 (n + 1) (some (.row (.l (bX gP)) 61)) := ⟨_, rfl⟩
  have g2 : H2 (n + 1) = some (.row (.l (bX gP)) 61) := by rw [hH2, aW]
  have o2 : ∀ j, j ≠ n + 1 → H2 j = H1 j := fun j hj => by rw [hH2, aP _ _ hj]
  have f2 : bO H2 (n + 1 + 1) := by rw [hH2]; exact f1.new
  show Ops _ _ _ _ _ _ _ _ (upd H1 (n + 1) (some (.row (.l (bX gP)) 61))) _
  rw [← hH2]
  clear hH2
  have rs2 : Row H2 s [.ptr x 0, lv] := (r.aX (o1 s (by omega))).aX (o2 s (by omega))
  simp only [aC, fgr, hkr, execOp, opd, bG, ofValue, aD, put, nth, aB, aL, aE, gL]
  refine eL (f66 s x lv H2 (n + 1 + 1) rs2) ?_
  simp only [aC, fgr, execOp, opd, aD, put, nth, aB]
  rw [cD iI rfl]
  obtain ⟨H3, hH3⟩ : ∃ H3, H3 = upd H2 (n + 1 + 1) (some (.row (.l (bX gP)) 61)) := ⟨_, rfl⟩
  have g3 : H3 (n + 1 + 1) = some (.row (.l (bX gP)) 61) := by rw [hH3, aW]
  have o3 : ∀ j, j ≠ n + 1 + 1 → H3 j = H2 j := fun j hj => by rw [hH3, aP _ _ hj]
  have f3 : bO H3 (n + 1 + 1 + 1) := by rw [hH3]; exact f2.new
  show Ops _ _ _ _ _ _ _ _ (upd H2 (n + 1 + 1) (some (.row (.l (bX gP)) 61))) _
  rw [← hH3]
  clear hH3
  simp only [aC, fgr, execOp, aD, put, aB]
  rw [cD G2 rfl]
  simp only [aC, execOp, opd, ofValue, aD, put, nth, cel]
  refine dQ (v := .int .i64 221) G2 rfl rfl rfl f3 fun H4 r4 o4 f4 => ?_
  replace r4 : Row H4 (n + 1 + 1 + 1) [.int .i64 221] := r4
  simp only [aC, fgr, hkr, execOp, opd, bG, aD, put, nth, aB, aL, aE, gL]
  refine bF f4 (f72 s H4 (n + 1 + 1 + 1 + 1) f4) fun v5 h5 n5 hn5 f5 ⟨e5, r5, o5, en5⟩ => ?_
  subst e5; subst en5
  simp only [aC, fgr, aD, put, aB]
  refine kW (g := 102) (first := []) (cap := [.ptr (n + 1 + 1 + 1 + 1) 0]) rfl rfl ?_
  let TM : List a9 := (.ptr s 0 :: .int .i64 z :: a9.aA :: .ptr n 0 :: .ptr (n + 1) 0 :: .int .i64 0 :: .ptr (n + 1 + 1) 0 :: .ptr (n + 1 + 1 + 1) 0 :: undef :: a9.aA :: .bool false :: a9.aA :: a9.aA :: .fn (.func 102) [] [.ptr (n + 1 + 1 + 1 + 1) 0] :: undef :: a9.aA :: a9.aA :: a9.aA :: undef :: a9.aA :: a9.aA :: a9.aA :: [])
  obtain ⟨H7, hH7⟩ : ∃ H7, H7 = upd h5 (n + 1 + 1 + 1 + 1 + 1) (some (Blk.loop (L25 TM))) := ⟨_, rfl⟩
  show Wp (c9 env (evalW env) 102 [a9.fn (Fn.yield (n + 1 + 1 + 1 + 1 + 1)) [] [], a9.ptr (n + 1 + 1 + 1 + 1) 0]) (upd h5 (n + 1 + 1 + 1 + 1 + 1) (some (Blk.loop (L25 TM)))) (n + 1 + 1 + 1 + 1 + 1 + 1) _
  rw [PQ, ← hH7]
  have f7 : bO H7 (n + 1 + 1 + 1 + 1 + 1 + 1) := by rw [hH7]; exact f5.new
  have o7 : ∀ j, j ≠ n + 1 + 1 + 1 + 1 + 1 → H7 j = h5 j := fun j hj => by rw [hH7, aP _ _ hj]
  have g7 : H7 (n + 1 + 1 + 1 + 1 + 1) = some (.loop (L25 TM)) := by rw [hH7, aW]
  clear hH7
  have old7 : ∀ j, j < n → H7 j = h j := fun j hj => by rw [o7 j (by omega), o5 j (by omega), o4 j (by omega), o3 j (by omega), o2 j (by omega), o1 j (by omega)]
  have z7 : Row H7 n [.int .i64 z] := ((((r1.aX (o2 _ (by omega))).aX (o3 _ (by omega))).aX (o4 _ (by omega))).aX (o5 _ (by omega))).aX (o7 _ (by omega))
  have b7 : H7 (n + 1) = some (.row (.l (bX gP)) 61) := by rw [o7 _ (by omega), o5 _ (by omega), o4 _ (by omega), o3 _ (by omega)]; exact g2
  have c7 : H7 (n + 1 + 1) = some (.row (.l (bX gP)) 61) := by rw [o7 _ (by omega), o5 _ (by omega), o4 _ (by omega)]; exact g3
  have d7 : Row H7 (n + 1 + 1 + 1) [.int .i64 221] := (r4.aX (o5 _ (by omega))).aX (o7 _ (by omega))
  have s7 : Row H7 (n + 1 + 1 + 1 + 1) [.ptr s 0] := r5.aX (o7 _ (by omega))
  have rs7 : Row H7 s [.ptr x 0, lv] := r.aX (old7 s sn)
  have il7 : IL H7 lv I := il.aX fun j y => old7 j (a j y).1
  refine wp_mono (f102 (.fn (.yield (n + 1 + 1 + 1 + 1 + 1)) [] []) lv (n + 1 + 1 + 1 + 1) s x I H7 (n + 1 + 1 + 1 + 1 + 1 + 1) hc
    (fun k h1 n1 => bO h1 n1 ∧ n + 1 + 1 + 1 + 1 + 1 + 1 ≤ n1 ∧ h1 (n + 1 + 1 + 1 + 1 + 1) = some (.loop (L25 TM)) ∧ (∀ j, j < n + 1 + 1 + 1 + 1 + 1 → h1 j = H7 j) ∧ ∀ i (hi : i < I.length), i < k → I[i].bT ≠ z)
    (fun h1 n1 => ∃ (l : kI) (k : Nat) (hk : k < I.length), h1 (n + 1 + 1 + 1 + 1 + 1) = some (.loop l) ∧ l.state = .done ∧ l.pending = some (.exit 0) ∧ (∀ i (hi : i < I.length), i < k → I[i].bT ≠ z) ∧ I[k].bT = z ∧ I[k].block.length = 32 ∧ Row h1 (n + 1 + 1) (bX I[k]) ∧ Row h1 (n + 1 + 1 + 1) [.int .i64 0] ∧ ∀ j, j < n + 1 + 1 → h1 j = H7 j)
    ⟨f7, Nat.le_refl _, g7, fun j _ => rfl, fun i _ q => by omega⟩ ?_ ?_) ?_
  · rintro k h1 n1 ⟨q1, q2, q3, q4, q5⟩
    exact ⟨s7.aX (q4 _ (by omega)), rs7.aX (q4 s (by omega)), il7.aX fun j y => q4 j (by have := (a j y).1; omega), q1⟩
  · rintro k hk h1 n1 ⟨q1, q2, q3, q4, q5⟩
    obtain ⟨bok, _⟩ := il7.all (n := n1) hk
    have hdec : ∀ i (hi : i < I.length), i < k → I[i].bT ≠ z := q5
    have hnx : ∀ i (hi : i < I.length), I[k].bT ≠ z → i < k + 1 → I[i].bT ≠ z := fun i hi hne hlt => by
      by_cases e : i = k
      · subst e; exact hne
      · exact q5 i hi (by omega)
    refine mK q3 rfl rfl ?_
    simp only [J3, List.getD_cons_zero, lJ, List.zip_cons_cons, List.zip_nil_left, L25, TM, cQ, Try.f25, Option.getD_some, aC, execOp, put, gL]
    rw [cD iI rfl]
    simp only [aC, execOp, opd, aD, put, nth, cel]
    refine dQ (v := .agg (bX I[k])) iI rfl (cE bok) (fL _) q1 fun H8 r8 o8 f8 => ?_
    replace r8 : Row H8 n1 (bX I[k]) := r8
    have g8 : H8 (n + 1 + 1 + 1 + 1 + 1) = some (.loop (L25 TM)) := (o8 _ (by omega)).trans q3
    simp only [aC, fgr, aD, aB, true_and]
    refine ⟨_, g8, rfl, ?_⟩
    obtain ⟨h9, hh9⟩ : ∃ h9, h9 = upd H8 (n + 1 + 1 + 1 + 1 + 1) (some (Blk.loop { L25 TM with state := .busy })) := ⟨_, rfl⟩
    have o9 : ∀ j, j ≠ n + 1 + 1 + 1 + 1 + 1 → h9 j = H8 j := fun j hj => by rw [hh9, aP _ _ hj]
    have g9 : h9 (n + 1 + 1 + 1 + 1 + 1) = some (.loop { L25 TM with state := .busy }) := by rw [hh9, aW]
    have f9 : bO h9 (n1 + 1) := by rw [hh9]; exact f8.upd (by omega)
    show Run env 25 _ _ _ _ _ (upd H8 (n + 1 + 1 + 1 + 1 + 1) (some (Blk.loop { L25 TM with state := .busy }))) (n1 + 1)
    rw [← hh9]
    clear hh9
    have to7 : ∀ j, j < n + 1 + 1 + 1 + 1 + 1 → h9 j = H7 j := fun j hj => by rw [o9 j (by omega), o8 j (by omega), q4 j hj]
    have r9 : Row h9 n1 (bX I[k]) := r8.aX (o9 _ (by omega))
    simp only [IY, List.getD_cons_zero, cQ, Try.f25, Option.getD_some, aC, tyr, fgr, execOp, opd, aD, put, nth, und, sizeOf, aZ, aS, fieldAddr, gL, gI]
    rw [aM (Row.one (off := 0) r9 (x := .int .i64 I[k].bT) rfl ti3 rfl)]
    simp only [aC, execOp, opd, aD, put, nth]
    rw [aM ((z7.aX (to7 n (by omega))).one (off := 0) rfl ti3 rfl)]
    by_cases hz : I[k].bT = z
    · simp only [aC, fgr, execOp, opd, aD, put, nth, aB, bor, aJ, aK, intOp, beq_self_eq_true, hz, gB]
      rw [aM (Row.whole r9 iI rfl (cE bok))]
      simp only [aC, execOp, opd, aD, put, nth]
      rw [dR (Row.write (v := .agg (bX I[k])) ((to7 (n + 1 + 1) (by omega)).trans c7) iI (cE bok) (by rw [cE fV]; show 0 + 37 ≤ 37; omega) (fL _))]
      rw [dZ (by show (bX I[k]).length = _; rw [cE bok, cE fV])]
      obtain ⟨hX, hhX⟩ : ∃ hX, hX = upd h9 (n + 1 + 1) (some (.row (.l (bX I[k])) 61)) := ⟨_, rfl⟩
      show Ops _ _ _ _ _ _ _ _ (upd h9 (n + 1 + 1) (some (.row (.l (bX I[k])) 61))) _
      rw [← hhX]
      have oX : ∀ j, j ≠ n + 1 + 1 → hX j = h9 j := fun j hj => by rw [hhX, aP _ _ hj]
      have rX : Row hX (n + 1 + 1) (bX I[k]) := ⟨61, by rw [hhX, aW]⟩
      clear hhX
      simp only [aC, execOp, opd, ofValue, aD, nth]
      obtain ⟨e0, hr7⟩ := d7
      have hr7' : hX (n + 1 + 1 + 1) = some (.row (.l [.int .i64 221]) e0) := by rw [oX _ (by omega), to7 _ (by omega)]; exact hr7
      rw [dR (Row.write (v := .int .i64 0) hr7' G2 rfl (by show 0 + 1 ≤ 1; omega) rfl)]
      obtain ⟨hA, hhA⟩ : ∃ hA, hA = upd hX (n + 1 + 1 + 1) (some (.row (.l [.int .i64 0]) e0)) := ⟨_, rfl⟩
      show Ops _ _ _ _ _ _ _ _ (upd hX (n + 1 + 1 + 1) (some (.row (.l [.int .i64 0]) e0))) _
      rw [← hhA]
      have gA : hA (n + 1 + 1 + 1 + 1 + 1) = some (.loop { L25 TM with state := .busy }) := by rw [hhA, aP _ _ (by omega), oX _ (by omega)]; exact g9
      have iA : Row hA (n + 1 + 1) (bX I[k]) := rX.aX (by rw [hhA, aP _ _ (by omega)])
      have eA : Row hA (n + 1 + 1 + 1) [.int .i64 0] := ⟨e0, by rw [hhA, aW]⟩
      have oA : ∀ j, j < n + 1 + 1 → hA j = H7 j := fun j hj => by rw [hhA, aP _ _ (by omega), oX _ (by omega), to7 j (by omega)]
      clear hhA
      simp only [aC, bH, fgr, aD, aB]
      exact ⟨_, gA, .inr ⟨.inl rfl, _, k, hk, aW _ _ _, rfl, rfl, hdec, hz, bok, iA.upd (by omega), eA.upd (by omega), fun j hj => by rw [aP _ _ (by omega), oA j hj]⟩⟩
    · simp only [aC, fgr, execOp, opd, aD, put, nth, aB, bor, aJ, aK, intOp, hz, gB, gI]
      exact ⟨_, g9, .inl ⟨.inl rfl, f9.upd (by omega), by omega, aW _ _ _, fun j hj => by rw [aP _ _ (by omega), to7 j hj], fun i hi hlt => hnx i hi hz hlt⟩⟩
  · rintro v5 h5' n5' ⟨e5, hh⟩
    rcases hh with ⟨q1, q2, q3, q4, q5⟩ | ⟨l, k, hk, q1, q2, q3, q4, q5, q6, q7, q8, q9⟩
    · refine ⟨_, q3, (fun q => by cases q), .normal, rfl, ?_⟩
      have hI : kG I z = none := GY fun i hi => q5 i hi hi
      rw [hI]
      obtain ⟨hB, hhB⟩ : ∃ hB, hB = upd h5' (n + 1 + 1 + 1 + 1 + 1) (some (Blk.loop { L25 TM with state := .exhausted })) := ⟨_, rfl⟩
      have oB : ∀ j, j < n + 1 + 1 + 1 + 1 + 1 → hB j = H7 j := fun j hj => by rw [hhB, aP _ _ (by omega), q4 j hj]
      show dV env 25 _ _ _ _ _ (upd h5' (n + 1 + 1 + 1 + 1 + 1) (some (Blk.loop { L25 TM with state := .exhausted }))) _
      rw [← hhB]
      clear hhB
      have rI : Row hB (n + 1 + 1) (bX gP) := ⟨61, (oB _ (by omega)).trans c7⟩
      have rE : Row hB (n + 1 + 1 + 1) [.int .i64 221] := d7.aX (oB _ (by omega))
      have rB : hB (n + 1) = some (.row (.l (bX gP)) 61) := (oB _ (by omega)).trans b7
      simp only [aC]
      refine cG ⟨rfl, ?_⟩
      simp only [aF, execOp, opd, nth]
      rw [bP (Row.whole rI iI rfl (cE fV))]
      simp only [aF, execOp, opd, aD, put, nth, gI]
      rw [bP (rE.one (off := 0) rfl G2 rfl)]
      simp only [aF, execOp, opd, aD, put, nth, Nat.reduceAdd]
      refine jH (Row.write (v := .agg (bX gP)) rB iI (cE fV) (by rw [cE fV]; show 0 + 37 ≤ 37; omega) (fL _)) ?_
      rw [dZ (by rfl)]
      simp only [bY, aF, aI, aC, fgr, execOp, opd, aD, put, nth, aB, cel, Nat.reduceAdd, gB]
      refine ⟨(by (try simp (disch := first | assumption | omega) only [dF, List.all_cons, List.all_nil, gB, gF]); repeat' (first | rfl | exact (Bool.or_eq_true _ _).mpr (.inr rfl) | refine (Bool.and_eq_true _ _).mpr ⟨?_, ?_⟩)), ?_⟩
      refine eQ (Row.whole (cs := bX gP) ⟨61, aW _ _ _⟩ iI rfl (cE fV)) (wp_pure.2 ?_)
      exact ⟨rfl, fV, fun j hj => by rw [aP _ _ (by omega), oB j (by omega), old7 j hj]⟩
    · refine ⟨_, q1, (fun q => by rw [q2] at q; cases q), .exit 0, by rw [q3], ?_⟩
      have hI : kG I z = some I[k] := GX hk q4 q5
      rw [hI]
      obtain ⟨hB, hhB⟩ : ∃ hB, hB = upd h5' (n + 1 + 1 + 1 + 1 + 1) (some (Blk.loop { l with state := .exhausted })) := ⟨_, rfl⟩
      have oB : ∀ j, j ≠ n + 1 + 1 + 1 + 1 + 1 → hB j = h5' j := fun j hj => by rw [hhB, aP _ _ hj]
      show dV env 25 _ _ _ _ _ (upd h5' (n + 1 + 1 + 1 + 1 + 1) (some (Blk.loop { l with state := .exhausted }))) _
      rw [← hhB]
      clear hhB
      have rI : Row hB (n + 1 + 1) (bX I[k]) := q7.aX (oB _ (by omega))
      have rE : Row hB (n + 1 + 1 + 1) [.int .i64 0] := q8.aX (oB _ (by omega))
      have rB : hB (n + 1) = some (.row (.l (bX gP)) 61) := by rw [oB _ (by omega), q9 _ (by omega)]; exact b7
      simp only [aC]
      refine cG ⟨rfl, ?_⟩
      simp only [aF, execOp, opd, nth]
      rw [bP (Row.whole rI iI rfl (cE q6))]
      simp only [aF, execOp, opd, aD, put, nth, gI]
      rw [bP (rE.one (off := 0) rfl G2 rfl)]
      simp only [aF, execOp, opd, aD, put, nth, Nat.reduceAdd]
      refine jH (Row.write (v := .agg (bX I[k])) rB iI (cE q6) (by rw [cE fV]; show 0 + 37 ≤ 37; omega) (fL _)) ?_
      rw [dZ (by show (bX I[k]).length = _; rw [cE q6, cE fV])]
      simp only [bY, aF, aI, aC, fgr, execOp, opd, aD, put, nth, aB, cel, Nat.reduceAdd, gB]
      refine ⟨(by (try simp (disch := first | assumption | omega) only [dF, List.all_cons, List.all_nil, gB, gF]); repeat' (first | rfl | exact (Bool.or_eq_true _ _).mpr (.inr rfl) | refine (Bool.and_eq_true _ _).mpr ⟨?_, ?_⟩)), ?_⟩
      refine eQ (Row.whole (cs := bX I[k]) ⟨61, aW _ _ _⟩ iI rfl (cE q6)) (wp_pure.2 ?_)
      exact ⟨rfl, q6, fun j hj => by rw [aP _ _ (by omega), oB j (by omega), q9 j (by omega), old7 j hj]⟩
section
variable {E : Env} {fn : FuncId} {rnd : Option Nat} {Q : eJ} {ks : List Kf} {tm : List a9} {h : Hp} {n : Nat} {ops rest : List Oper} {d : Option Tmp}
theorem yQ {j : Nat} {fs : List fY} {t : TypeId} {i : TI} (hi : ti E t = M.pure i) (hj : eD i.zero = false) (hf : bO h n)
    (hq : ∀ H, H n = some (.row (.l i.zero.cells) t) → (∀ k, k ≠ n → H k = h k) → bO H (n + 1) → Fe E fn rnd Q ks ops (j + 1) rest (aD tm d (.ptr n 0)) (⟨j, [], [], n, n + 1⟩ :: fs) H (n + 1)) : FeV E fn rnd Q ks ops j rest d tm fs (cN E t) h n := by
  simp only [cN, zeroOf, hi, bind_pure, alloc, hj]
  exact jI hi hf hq
theorem JN (hf : bO h n) : only (fun j => decide (j < n)) h = h := funext fun j => by
  by_cases c : j < n
  · exact gY (decide_eq_true c)
  · rw [hf j (by omega)]
    exact mS (decide_eq_false c)
theorem FK {j : Nat} {fs : List fY} {m : M a9} {Q1 : a9 → Hp → Nat → Prop} (hf : bO h n) (hw : Wp m h n Q1)
    (hq : ∀ v h' n' r w, n ≤ n' → bO h' n' → Q1 v h' n' → (∀ id, id ∈ r → id < n) → (∀ id, id ∈ w → id < n) → Fe E fn rnd Q ks ops (j + 1) rest (aD tm d v) (⟨j, r, w, n, n'⟩ :: fs) h' n') : FeV E fn rnd Q ks ops j rest d tm fs m h n := by
  refine wC (fun j => decide (j < n)) hf (Q0 := Q1) (by rw [JN hf]; exact hw) fun v h' n' r w hr hn hf' q h1 h2 h3 h4 => ?_
  have e : h' = hr := funext fun k => h1 k (by
    by_cases c : k < n
    · exact .inl (decide_eq_true c)
    · exact .inr (by omega))
  rw [← e] at q
  exact hq v h' n' r w hn hf' q (fun id hi => of_decide_eq_true (h3 id hi)) (fun id hi => of_decide_eq_true (h4 id hi))
end
def xH (z : Int) : Int := IntKind.u64.wrap z
def sD (v : Ver) (L : List Ver) : Bool := uG v || L.any fun w => decide (fM w v = 0)
def mO (L0 : List Ver) (tip : Int) : List Ver → List Ver → Int → Option (List Ver × Int)
  | [], L, t => some (L, t)
  | v :: vs, L, t => if (atV L0 v.hash v.pn tip).isSome || sD v L then none else mO L0 tip vs (mP L v) (xH (t + xH v.value))
def mZ (z : Int) : List Spd → List Ver → Int → Option (List Ver × Int)
  | [], L, t => some (L, t)
  | p :: ps, L, t => match atV L p.hash p.pn z with
    | none => none
    | some w => if decide (w.bZ = 0) && decide (1 ≤ z) && decide (w.made ≤ z) then mZ z ps (qB L w (gQ w z p.by_)) (xH (t - xH w.value)) else none
theorem yT {v : Ver} {L : List Ver} : sD v L = true ↔ AA v L := by
  unfold sD AA
  rw [Bool.or_eq_true, List.any_eq_true]
  constructor
  · rintro (h | ⟨a, h1, h2⟩)
    · exact .inl h
    · exact .inr ⟨a, h1, of_decide_eq_true h2⟩
  · rintro (h | ⟨a, h1, h2⟩)
    · exact .inl h
    · exact .inr ⟨a, h1, decide_eq_true h2⟩
theorem JY (Q : eJ) (ks : List Kf) (W K T : Nat → Prop) (s y c a b : Nat) (A : App) (mv sv : a9) (L0 : List Ver) (I : List Inf) (RES : Option (List Ver × Int)) (h0 : Hp) (n0 : Nat) (hKn : ∀ j, K j → j < n0) (hcK : K c)
    (hSt : ∀ h n, n0 ≤ n → (∀ j, K j → h j = h0 j) → St W h n s L0 I) (hAp : ∀ h, (∀ j, K j → h j = h0 j) → jN h a b A mv sv) (hb : b ≤ n0) (hrc : Row h0 c (bK A mv sv))
    (hpn : ∀ v ∈ A.made, 0 ≤ v.pn) (hsl : ∀ v ∈ A.made, v.aR.length ≤ 1000000) (hI : I.length ≤ 1000000) (hL0 : L0.length ≤ 900000)
    (hT : ∀ (h : Hp) (n : Nat) (L : List Ver) (t : Int) (x2 x11 x13 x15 x16 x17 x22 x43 x51 x52 x53 x54 x80 : a9), RES = some (L, t) → (∀ j, K j → h j = h0 j) → Ixw K T h n y L → L.length ≤ 900000 → n0 ≤ n → bO h n →
      dV env 69 none Q ks (.exit 0) (.ptr s 0 :: .ptr y 0 :: x2 :: .int .u64 t :: a9.aA :: a9.aA :: .ptr c 0 :: a9.aA :: .int .u64 0 :: .bool false :: a9.aA :: x11 :: a9.aA :: x13 :: a9.aA :: x15 :: x16 :: x17 :: a9.aA :: mv :: .int .i64 (A.made.length : Nat) :: .int .i64 (A.made.length : Nat) :: x22 :: a9.aA :: a9.aA :: a9.aA :: a9.aA :: a9.aA :: a9.aA :: a9.aA :: a9.aA :: a9.aA :: a9.aA :: a9.aA :: a9.aA :: a9.aA :: a9.aA :: a9.aA :: a9.aA :: a9.aA :: a9.aA :: a9.aA :: a9.aA :: x43 :: a9.aA :: a9.aA :: a9.aA :: a9.aA :: a9.aA :: a9.aA :: a9.aA :: x51 :: x52 :: x53 :: x54 :: a9.aA :: a9.aA :: a9.aA :: a9.aA :: a9.aA :: a9.aA :: a9.aA :: a9.aA :: a9.aA :: a9.aA :: a9.aA :: a9.aA :: a9.aA :: a9.aA :: a9.aA :: a9.aA :: a9.aA :: a9.aA :: a9.aA :: a9.aA :: a9.aA :: a9.aA :: a9.aA :: a9.aA :: a9.aA :: x80 :: a9.aA :: a9.aA :: a9.aA :: a9.aA :: a9.aA :: a9.aA :: a9.aA :: []) h n)
    (hR : ∀ (h : Hp) (n : Nat) (x0 x1 x2 x3 x6 x11 x13 x15 x16 x17 x19 x20 x21 x22 x43 x51 x52 x53 x54 x80 : a9), RES = none → (∀ j, K j → h j = h0 j) → dV env 69 none Q ks .ret (x0 :: x1 :: x2 :: x3 :: a9.aA :: a9.aA :: x6 :: a9.aA :: .int .u64 0 :: .bool false :: a9.aA :: x11 :: a9.aA :: x13 :: a9.aA :: x15 :: x16 :: x17 :: a9.aA :: x19 :: x20 :: x21 :: x22 :: a9.aA :: a9.aA :: a9.aA :: a9.aA :: a9.aA :: a9.aA :: a9.aA :: a9.aA :: a9.aA :: a9.aA :: a9.aA :: a9.aA :: a9.aA :: a9.aA :: a9.aA :: a9.aA :: a9.aA :: a9.aA :: a9.aA :: a9.aA :: x43 :: a9.aA :: a9.aA :: a9.aA :: a9.aA :: a9.aA :: a9.aA :: a9.aA :: x51 :: x52 :: x53 :: x54 :: a9.aA :: a9.aA :: a9.aA :: a9.aA :: a9.aA :: a9.aA :: a9.aA :: a9.aA :: a9.aA :: a9.aA :: a9.aA :: a9.aA :: a9.aA :: a9.aA :: a9.aA :: a9.aA :: a9.aA :: a9.aA :: a9.aA :: a9.aA :: a9.aA :: a9.aA :: a9.aA :: a9.aA :: a9.aA :: x80 :: a9.aA :: a9.aA :: a9.aA :: a9.aA :: a9.aA :: a9.aA :: a9.aA :: []) h n) :
    ∀ (m i : Nat) (h : Hp) (n : Nat) (L : List Ver) (t : Int) (x2 x11 x13 x15 x16 x17 x22 x43 x51 x52 x53 x54 x80 : a9), i + m = A.made.length → mO L0 (((I.length : Nat) : Int) - 1) (A.made.drop i) L t = RES → (∀ j, K j → h j = h0 j) → Ixw K T h n y L → L.length + m ≤ 900000 → n0 ≤ n → bO h n →
      Run env 69 none Q (.loop DE) ks (.ptr s 0 :: .ptr y 0 :: x2 :: .int .u64 t :: a9.aA :: a9.aA :: .ptr c 0 :: a9.aA :: .int .u64 0 :: .bool false :: a9.aA :: x11 :: a9.aA :: x13 :: a9.aA :: x15 :: x16 :: x17 :: a9.aA :: mv :: .int .i64 (A.made.length : Nat) :: .int .i64 (i : Nat) :: x22 :: a9.aA :: a9.aA :: a9.aA :: a9.aA :: a9.aA :: a9.aA :: a9.aA :: a9.aA :: a9.aA :: a9.aA :: a9.aA :: a9.aA :: a9.aA :: a9.aA :: a9.aA :: a9.aA :: a9.aA :: a9.aA :: a9.aA :: a9.aA :: x43 :: a9.aA :: a9.aA :: a9.aA :: a9.aA :: a9.aA :: a9.aA :: a9.aA :: x51 :: x52 :: x53 :: x54 :: a9.aA :: a9.aA :: a9.aA :: a9.aA :: a9.aA :: a9.aA :: a9.aA :: a9.aA :: a9.aA :: a9.aA :: a9.aA :: a9.aA :: a9.aA :: a9.aA :: a9.aA :: a9.aA :: a9.aA :: a9.aA :: a9.aA :: a9.aA :: a9.aA :: a9.aA :: a9.aA :: a9.aA :: a9.aA :: x80 :: a9.aA :: a9.aA :: a9.aA :: a9.aA :: a9.aA :: a9.aA :: a9.aA :: []) h n := by
  intro m
  induction m with
  | zero =>
    intro i h n L t x2 x11 x13 x15 x16 x17 x22 x43 x51 x52 x53 x54 x80 hm hres hk hy hl hn hf
    have : i = A.made.length := by omega
    subst this
    rw [List.drop_length] at hres
    rw [cF]
    have hcc : ¬ (((A.made.length : Nat) : Int) < ((A.made.length : Nat) : Int)) := by omega
    simp only [DE, bS, Try.f69, Option.getD_some, aC, fgr, execOp, opd, aD, put, nth, aB, bor, aJ, aK, intOp, List.getD_cons_zero, hcc, gL, gB]
    exact hT h n L t _ _ _ _ _ _ _ _ _ _ _ _ _ hres.symm hk hy (by omega) hn hf
  | succ m ih =>
    intro i h n L t x2 x11 x13 x15 x16 x17 x22 x43 x51 x52 x53 x54 x80 hm hres hk hy hl hn hf
    have ha := hAp h hk
    have hil : i < A.made.length := by omega
    have hcc : (((i : Nat) : Int) < ((A.made.length : Nat) : Int)) := by omega
    have w1 : IntKind.i64.wrap (((i : Nat) : Int) + 1) = ((i + 1 : Nat) : Int) := by rw [w64 (by omega) (by have := ha.ml; omega)]; omega
    obtain ⟨sw, va⟩ := ha.m.at_ hil
    rw [← List.getElem_cons_drop hil] at hres
    have hvm := List.getElem_mem hil
    have hpv := hpn _ hvm
    have hsv := hsl _ hvm
    generalize A.made[i] = v at *
    rw [cF]
    simp only [DE, bS, Try.f69, Option.getD_some, aC, fgr, execOp, opd, aD, put, nth, aB, bor, aJ, aK, intOp, List.getD_cons_zero, hcc, gL, gB]
    rw [aM (ha.m.idx hil)]
    simp only [aC, execOp, opd, aD, put, nth]
    rw [aM (va.all n)]
    simp only [aC, execOp, aD, put]
    rw [cD dY rfl]
    simp only [aC, execOp, opd, aD, put, nth, cel]
    have kd := va.s.kind
    refine dQ (v := .agg (aO v sw)) dY rfl (bM va.ok.h va.ok.b) (cL kd.2.1) hf fun H1 r1 p1 f1 => ?_
    replace r1 : Row H1 n (aO v sw) := r1
    have O1 : Old h H1 n := fun j hj => p1 j (by omega)
    have k1 : ∀ j, K j → H1 j = h0 j := fun j q => by rw [p1 j (by have := hKn j q; omega)]; exact hk j q
    have y1 := hy.grow (n' := n + 1) (by omega) O1
    have s1 := hSt H1 (n + 1) (by omega) k1
    obtain ⟨x, lv, rs, ix, il, sa, sb, sc⟩ := s1
    simp only [aC, fgr, aD, aB]
    refine cG ⟨rfl, ?_⟩
    simp only [aF, aI, aC, tyr, execOp, opd, aD, put, nth, und, sizeOf, nilCheck, aZ, aS, fieldAddr, Nat.reduceAdd, gL, gI]
    rw [bP (rs.one (off := 0) rfl qA rfl)]
    simp only [aF, aI, aC, tyr, execOp, opd, aD, put, nth, und, sizeOf, aZ, aS, fieldAddr, Nat.reduceAdd, gL, gI]
    rw [bP (gX r1 va.ok)]
    simp only [aF, aI, hkr, execOp, opd, bG, aD, put, nth, aL, aE, Nat.reduceAdd, gL]
    rw [bP (NF s x lv I H1 (n + 1) rs il hI)]
    simp only [aF, hkr, execOp, opd, bG, aD, put, nth, aL, aE, Nat.reduceAdd, gL]
    refine FK f1 (VU v.hash v.pn (((I.length : Nat) : Int) - 1) va.ok.h ix.k hL0 f1) fun v3 h3 n3 rr3 ww3 hn3 f3 ⟨o3, sA, e3, okA, bA, iA⟩ qr3 qw3 => ?_
    subst e3
    have csn : s < n3 := by have := sc s sb; omega
    have cr0 : ∀ id, id ∈ [s] → id < n3 ∨ n3 + 1 ≤ id := fun id q => by rw [List.mem_singleton] at q; omega
    have cr1 : ∀ id, id ∈ [n] → id < n3 ∨ n3 + 1 ≤ id := fun id q => by rw [List.mem_singleton] at q; omega
    have cr2 : ∀ id, id ∈ ([] : List Nat) → id < n3 ∨ n3 + 1 ≤ id := fun id q => by cases q
    have cr3 : ∀ id, id ∈ rr3 → id < n3 ∨ n3 + 1 ≤ id := fun id q => .inl (by have := qr3 id q; omega)
    have cw3 : ∀ id, id ∈ ww3 → id < n3 ∨ n3 + 1 ≤ id := fun id q => .inl (by have := qw3 id q; omega)
    simp only [aF, aI, execOp, opd, aD, put, nth, extract, aZ, Nat.reduceAdd, gL]
    refine yQ dY rfl f3 fun H4 r4 o4 f4 => ?_
    simp only [aF, execOp, opd, aD, put, nth, Nat.reduceAdd]
    refine jH (Row.write (v := .agg (aO ((atV L0 v.hash v.pn (((I.length : Nat) : Int) - 1)).getD noV) sA)) r4 dY (bM okA.h okA.b) (by show 0 + 70 ≤ 70; omega) (cL bA.kind.2.1)) ?_
    obtain ⟨H5, hH5⟩ : ∃ H5, H5 = upd H4 n3 (some (.row (.l (cB fG.i.zero.cells 0 (a9.agg (aO ((atV L0 v.hash v.pn (((I.length : Nat) : Int) - 1)).getD noV) sA)).cells)) 31)) := ⟨_, rfl⟩
    show Fe _ _ _ _ _ _ _ _ _ _ (upd H4 n3 (some (.row (.l (cB fG.i.zero.cells 0 (a9.agg (aO ((atV L0 v.hash v.pn (((I.length : Nat) : Int) - 1)).getD noV) sA)).cells)) 31))) _
    rw [← hH5]
    have o5 : ∀ j, j ≠ n3 → H5 j = h3 j := fun j hj => by rw [hH5, aP _ _ hj, o4 j hj]
    have f5 : bO H5 (n3 + 1) := by rw [hH5]; exact f4.upd (by omega)
    clear hH5
    simp only [bY, aF, aI, aC, fgr, execOp, opd, aD, put, nth, aB, Nat.reduceAdd, gL]
    refine ⟨(by (try simp (disch := first | assumption | omega) only [dF, List.all_cons, List.all_nil, gB, gF]); repeat' (first | rfl | exact (Bool.or_eq_true _ _).mpr (.inr rfl) | refine (Bool.and_eq_true _ _).mpr ⟨?_, ?_⟩)), ?_⟩
    have k5 : ∀ j, K j → H5 j = h0 j := fun j q => by have := hKn j q; rw [o5 j (by omega), o3 j (by omega)]; exact k1 j q
    have O5 : Old H1 H5 (n + 1) := fun j hj => by rw [o5 j (by omega), o3 j hj]
    have y5 := y1.old (n' := n3 + 1) (by omega) O5
    have r5 : Row H5 n (aO v sw) := r1.aX (O5 n (by omega))
    have b5 : Bytes H5 sw v.aR := va.s.aX fun j q => by have := va.sn j q; rw [O5 j (by omega), O1 j (by omega)]
    cases hat : (atV L0 v.hash v.pn (((I.length : Nat) : Int) - 1)).isSome with
    | true =>
      have hnone : RES = none := by rw [← hres, mO, hat]; rfl
      simp only [aC, fgr, execOp, opd, ofValue, aD, put, nth, aB, bC, branch, gL]
      exact hR _ _ _ _ _ _ _ _ _ _ _ _ _ _ _ _ _ _ _ _ _ _ hnone k5
    | false =>
    simp only [aC, execOp, opd, aD, put, nth, gL]
    rw [aM (eN r5 va.ok)]
    simp only [aC, hkr, execOp, opd, bG, aD, put, nth, aL, aE, gL]
    refine bF f5 (f33w v sw va.ok hpv hsv y5 b5 (fun j q => by have := va.sn j q; omega) (by omega) f5) fun v6 h6 n6 hn6 f6 ⟨k6, hh⟩ => ?_
    have k6' : ∀ j, K j → h6 j = h0 j := fun j q => by rw [k6 j (.inl q)]; exact k5 j q
    rcases hh with ⟨he, e6, y6⟩ | ⟨he, e6, y6⟩
    · subst e6
      have hnone : RES = none := by rw [← hres, mO, hat, yT.2 he]; rfl
      simp only [aC, fgr, execOp, opd, ofValue, aD, put, nth, aB, bor, aJ, aK, intOp, bC, branch, Int.reduceEq, gL, gB, gI]
      exact hR _ _ _ _ _ _ _ _ _ _ _ _ _ _ _ _ _ _ _ _ _ _ hnone k6'
    · subst e6
      have hne : sD v L = false := by
        cases e : sD v L with
        | false => rfl
        | true => exact absurd (yT.1 e) he
      rw [mO, hat, hne] at hres
      have r6 : Row h6 n (aO v sw) := r5.aX (k6 n (.inr ⟨Nat.le_refl _, by omega⟩))
      simp only [aC, tyr, fgr, execOp, opd, ofValue, aD, put, nth, aB, und, sizeOf, bor, aJ, aK, intOp, bC, branch, aZ, aS, fieldAddr, bne_self_eq_false, gL, gB, gI]
      rw [aM (kX r6 va.ok)]
      simp only [aC, tyr, fgr, execOp, opd, ofValue, aD, put, nth, aB, und, lenOf, bor, aJ, aK, intOp, bU, dG, cW, convert, hU, qC, w1, gB]
      exact ih (i + 1) h6 n6 (mP L v) (xH (t + xH v.value)) _ _ _ _ _ _ _ _ _ _ _ _ _ (by omega) (by simpa using hres) k6' (y6.sub fun j q => .inl q) (by rw [B5]; omega) (by omega) f6
theorem CI {L : List Ver} {hash : List UInt8} {pn z : Int} {w : Ver} (h : atV L hash pn z = some w) : w ∈ L ∧ w.hash = hash ∧ w.pn = pn ∧ there w z = true := by
  unfold atV at h
  have hm := List.mem_of_getLast? h
  obtain ⟨h1, h2⟩ := List.mem_filter.1 hm
  rw [Bool.and_eq_true] at h2
  have h3 := h2.1
  unfold same at h3
  simp only [Bool.and_eq_true, decide_eq_true_eq, beq_iff_eq] at h3
  exact ⟨h1, h3.1, h3.2, h2.2⟩
theorem JX (Q : eJ) (ks : List Kf) (K T : Nat → Prop) (y c a b : Nat) (A : App) (mv sv : a9) (RES : Option (List Ver × Int)) (h0 : Hp) (n0 : Nat) (hKn : ∀ j, K j → j < n0) (hcK : K c)
    (hAp : ∀ h, (∀ j, K j → h j = h0 j) → jN h a b A mv sv) (hrc : Row h0 c (bK A mv sv))
    (hT : ∀ (h : Hp) (n : Nat) (L : List Ver) (t : Int) (x0 x2 x11 x13 x15 x16 x17 x19 x20 x21 x22 x43 x54 x80 : a9), RES = some (L, t) → (∀ j, K j → h j = h0 j) → Ixw K T h n y L → n0 ≤ n → bO h n →
      dV env 69 none Q ks (.exit 2) (x0 :: .ptr y 0 :: x2 :: .int .u64 t :: a9.aA :: a9.aA :: .ptr c 0 :: a9.aA :: .int .u64 0 :: .bool false :: a9.aA :: x11 :: a9.aA :: x13 :: a9.aA :: x15 :: x16 :: x17 :: a9.aA :: x19 :: x20 :: x21 :: x22 :: a9.aA :: a9.aA :: a9.aA :: a9.aA :: a9.aA :: a9.aA :: a9.aA :: a9.aA :: a9.aA :: a9.aA :: a9.aA :: a9.aA :: a9.aA :: a9.aA :: a9.aA :: a9.aA :: a9.aA :: a9.aA :: a9.aA :: a9.aA :: x43 :: a9.aA :: a9.aA :: a9.aA :: a9.aA :: a9.aA :: a9.aA :: a9.aA :: sv :: .int .i64 (A.c8.length : Nat) :: .int .i64 (A.c8.length : Nat) :: x54 :: a9.aA :: a9.aA :: a9.aA :: a9.aA :: a9.aA :: a9.aA :: a9.aA :: a9.aA :: a9.aA :: a9.aA :: a9.aA :: a9.aA :: a9.aA :: a9.aA :: a9.aA :: a9.aA :: a9.aA :: a9.aA :: a9.aA :: a9.aA :: a9.aA :: a9.aA :: a9.aA :: a9.aA :: a9.aA :: x80 :: a9.aA :: a9.aA :: a9.aA :: a9.aA :: a9.aA :: a9.aA :: a9.aA :: []) h n)
    (hR : ∀ (h : Hp) (n : Nat) (x0 x1 x2 x3 x6 x11 x13 x15 x16 x17 x19 x20 x21 x22 x43 x51 x52 x53 x54 x80 : a9), RES = none → (∀ j, K j → h j = h0 j) → dV env 69 none Q ks .ret (x0 :: x1 :: x2 :: x3 :: a9.aA :: a9.aA :: x6 :: a9.aA :: .int .u64 0 :: .bool false :: a9.aA :: x11 :: a9.aA :: x13 :: a9.aA :: x15 :: x16 :: x17 :: a9.aA :: x19 :: x20 :: x21 :: x22 :: a9.aA :: a9.aA :: a9.aA :: a9.aA :: a9.aA :: a9.aA :: a9.aA :: a9.aA :: a9.aA :: a9.aA :: a9.aA :: a9.aA :: a9.aA :: a9.aA :: a9.aA :: a9.aA :: a9.aA :: a9.aA :: a9.aA :: a9.aA :: x43 :: a9.aA :: a9.aA :: a9.aA :: a9.aA :: a9.aA :: a9.aA :: a9.aA :: x51 :: x52 :: x53 :: x54 :: a9.aA :: a9.aA :: a9.aA :: a9.aA :: a9.aA :: a9.aA :: a9.aA :: a9.aA :: a9.aA :: a9.aA :: a9.aA :: a9.aA :: a9.aA :: a9.aA :: a9.aA :: a9.aA :: a9.aA :: a9.aA :: a9.aA :: a9.aA :: a9.aA :: a9.aA :: a9.aA :: a9.aA :: a9.aA :: x80 :: a9.aA :: a9.aA :: a9.aA :: a9.aA :: a9.aA :: a9.aA :: a9.aA :: []) h n) :
    ∀ (m i : Nat) (h : Hp) (n : Nat) (L : List Ver) (t : Int) (x0 x2 x11 x13 x15 x16 x17 x19 x20 x21 x22 x43 x54 x80 : a9), i + m = A.c8.length → mZ A.bT (A.c8.drop i) L t = RES → (∀ j, K j → h j = h0 j) → Ixw K T h n y L → L.length ≤ 900000 → n0 ≤ n → bO h n →
      Run env 69 none Q (.loop DD) ks (x0 :: .ptr y 0 :: x2 :: .int .u64 t :: a9.aA :: a9.aA :: .ptr c 0 :: a9.aA :: .int .u64 0 :: .bool false :: a9.aA :: x11 :: a9.aA :: x13 :: a9.aA :: x15 :: x16 :: x17 :: a9.aA :: x19 :: x20 :: x21 :: x22 :: a9.aA :: a9.aA :: a9.aA :: a9.aA :: a9.aA :: a9.aA :: a9.aA :: a9.aA :: a9.aA :: a9.aA :: a9.aA :: a9.aA :: a9.aA :: a9.aA :: a9.aA :: a9.aA :: a9.aA :: a9.aA :: a9.aA :: a9.aA :: x43 :: a9.aA :: a9.aA :: a9.aA :: a9.aA :: a9.aA :: a9.aA :: a9.aA :: sv :: .int .i64 (A.c8.length : Nat) :: .int .i64 (i : Nat) :: x54 :: a9.aA :: a9.aA :: a9.aA :: a9.aA :: a9.aA :: a9.aA :: a9.aA :: a9.aA :: a9.aA :: a9.aA :: a9.aA :: a9.aA :: a9.aA :: a9.aA :: a9.aA :: a9.aA :: a9.aA :: a9.aA :: a9.aA :: a9.aA :: a9.aA :: a9.aA :: a9.aA :: a9.aA :: a9.aA :: x80 :: a9.aA :: a9.aA :: a9.aA :: a9.aA :: a9.aA :: a9.aA :: a9.aA :: []) h n := by
  intro m
  induction m with
  | zero =>
    intro i h n L t x0 x2 x11 x13 x15 x16 x17 x19 x20 x21 x22 x43 x54 x80 hm hres hk hy hl hn hf
    have : i = A.c8.length := by omega
    subst this
    rw [List.drop_length] at hres
    rw [cF]
    have hcc : ¬ (((A.c8.length : Nat) : Int) < ((A.c8.length : Nat) : Int)) := by omega
    simp only [DD, bS, Try.f69, Option.getD_some, aC, fgr, execOp, opd, aD, put, nth, aB, bor, aJ, aK, intOp, List.getD_cons_zero, List.getD_cons_succ, hcc, gL, gB]
    exact hT h n L t _ _ _ _ _ _ _ _ _ _ _ _ _ _ hres.symm hk hy hn hf
  | succ m ih =>
    intro i h n L t x0 x2 x11 x13 x15 x16 x17 x19 x20 x21 x22 x43 x54 x80 hm hres hk hy hl hn hf
    have ha := hAp h hk
    have hil : i < A.c8.length := by omega
    have hcc : (((i : Nat) : Int) < ((A.c8.length : Nat) : Int)) := by omega
    have w1 : IntKind.i64.wrap (((i : Nat) : Int) + 1) = ((i + 1 : Nat) : Int) := by rw [w64 (by omega) (by have := ha.sl; omega)]; omega
    obtain ⟨ok, hld⟩ := ha.s.all (n := n) hil
    rw [← List.getElem_cons_drop hil] at hres
    generalize A.c8[i] = v at *
    rw [cF]
    simp only [DD, bS, Try.f69, Option.getD_some, aC, fgr, execOp, opd, aD, put, nth, aB, bor, aJ, aK, intOp, List.getD_cons_zero, List.getD_cons_succ, hcc, gL, gB]
    rw [aM (ha.s.idx hil)]
    simp only [aC, execOp, opd, aD, put, nth]
    rw [aM hld]
    simp only [aC, execOp, aD, put]
    rw [cD xI rfl]
    simp only [aC, execOp, opd, aD, put, nth, cel]
    refine dQ (v := .agg (fB v)) xI rfl (lF ok) (qO v) hf fun H1 r1 p1 f1 => ?_
    replace r1 : Row H1 n (fB v) := r1
    have O1 : Old h H1 n := fun j hj => p1 j (by omega)
    have k1 : ∀ j, K j → H1 j = h0 j := fun j q => by rw [p1 j (by have := hKn j q; omega)]; exact hk j q
    have y1 := hy.grow (n' := n + 1) (by omega) O1
    have rc1 : Row H1 c (bK A mv sv) := hrc.aX (k1 c hcK)
    simp only [aC, tyr, fgr, execOp, opd, aD, put, nth, aB, und, sizeOf, aZ, aS, fieldAddr, gL, gI]
    rw [aM (uL r1 ok)]
    simp only [aC, tyr, execOp, opd, aD, put, nth, und, sizeOf, aZ, aS, fieldAddr, gL, gI]
    rw [aM (tP rc1)]
    simp only [aC, hkr, execOp, opd, bG, aD, put, nth, aL, aE, gL]
    refine bF f1 (VU v.hash v.pn A.bT ok.h y1.k hl f1) fun v3 h3 n3 hn3 f3 ⟨o3, sA, e3, okA, bA, iA⟩ => ?_
    subst e3
    simp only [aC, execOp, opd, aD, put, nth, extract, aZ, gL]
    rw [cD dY rfl]
    simp only [aC, execOp, opd, aD, put, nth, cel]
    refine dQ (v := .agg (aO ((atV L v.hash v.pn A.bT).getD noV) sA)) dY rfl (bM okA.h okA.b) (cL bA.kind.2.1) f3 fun H4 r4 p4 f4 => ?_
    replace r4 : Row H4 n3 (aO ((atV L v.hash v.pn A.bT).getD noV) sA) := r4
    have O4 : Old H1 H4 (n + 1) := fun j hj => by rw [p4 j (by omega), o3 j hj]
    have k4 : ∀ j, K j → H4 j = h0 j := fun j q => by have := hKn j q; rw [O4 j (by omega)]; exact k1 j q
    have y4 := y1.old (n' := n3 + 1) (by omega) O4
    have s4 : Row H4 n (fB v) := r1.aX (O4 n (by omega))
    have rc4 : Row H4 c (bK A mv sv) := hrc.aX (k4 c hcK)
    cases hat : atV L v.hash v.pn A.bT with
    | none =>
      have hnone : RES = none := by rw [← hres, mZ, hat]
      simp only [aC, fgr, execOp, opd, ofValue, aD, put, nth, aB, unOp, bC, branch, Option.isSome_none, gL, gB]
      exact hR _ _ _ _ _ _ _ _ _ _ _ _ _ _ _ _ _ _ _ _ _ _ hnone k4
    | some w =>
    rw [hat] at r4 okA
    simp only [Option.getD_some] at r4 okA
    obtain ⟨hwL, hwh, hwp, _⟩ := CI hat
    simp only [aC, tyr, fgr, execOp, opd, aD, put, nth, aB, und, sizeOf, unOp, aZ, aS, fieldAddr, Option.isSome_some, gL, gB, gI]
    rw [aM (uL s4 ok)]
    simp only [aC, tyr, execOp, opd, aD, put, nth, und, sizeOf, aZ, aS, fieldAddr, gL, gI]
    rw [aM (eS r4 okA)]
    simp only [aC, tyr, execOp, opd, aD, put, nth, und, sizeOf, aZ, aS, fieldAddr, gL, gI]
    rw [aM (tP rc4)]
    simp only [aC, tyr, execOp, opd, aD, put, nth, und, sizeOf, aZ, aS, fieldAddr, gL, gI]
    rw [aM (N7 s4 ok)]
    simp only [aC, hkr, execOp, opd, bG, aD, put, nth, aL, aE, gL]
    have y4' := y4.grow (h' := H4) (n' := n3 + 1) (Nat.le_refl _) (Old.refl _ _)
    have y4c : Ixw (fun j => (K j ∨ (n ≤ j ∧ j < n + 1)) ∨ j = n3) T H4 (n3 + 1) y L := by
      have := (y1.old (n' := n3) hn3 o3).grow (h' := H4) (n' := n3 + 1) (by omega) (fun j hj => p4 j (by omega))
      exact this.sub fun j q => by
        rcases q with q | q
        · exact .inl q
        · exact .inr (by omega)
    refine bF f4 (f36w v.hash v.pn w.made A.bT v.by_ ok.h ok.b y4c hl f4) fun v6 h6 n6 hn6 f6 ⟨k6, hh⟩ => ?_
    have k6' : ∀ j, K j → h6 j = h0 j := fun j q => by rw [k6 j (.inl (.inl q))]; exact k4 j q
    rcases hh with ⟨he, e6, y6⟩ | ⟨w2, hw2, hk2, h1, h2, h3', e6, y6⟩
    · subst e6
      have hw := he w hwL (by rw [← hwh, ← hwp]; exact A5 w)
      have hnone : RES = none := by
        rw [← hres, mZ, hat]
        simp only
        rw [if_neg]
        simp only [Bool.and_eq_true, decide_eq_true_eq]
        omega
      simp only [aC, fgr, execOp, opd, ofValue, aD, put, nth, aB, bor, aJ, aK, intOp, bC, branch, Int.reduceEq, gL, gB, gI]
      exact hR _ _ _ _ _ _ _ _ _ _ _ _ _ _ _ _ _ _ _ _ _ _ hnone k6'
    · subst e6
      have hww : w2 = w := by
        refine kC hy.rL hw2 hwL ?_
        have e := yV hk2
        have : fM w2 (key w.hash w.pn w.made) = 0 := by rw [hwh, hwp]; exact hk2
        exact this
      subst hww
      rw [mZ, hat] at hres
      simp only at hres
      rw [if_pos (by simp only [Bool.and_eq_true, decide_eq_true_eq]; omega)] at hres
      have r6 : Row h6 n3 (aO w2 sA) := r4.aX (k6 n3 (.inr rfl))
      simp only [aC, tyr, fgr, execOp, opd, ofValue, aD, put, nth, aB, und, sizeOf, bor, aJ, aK, intOp, bC, branch, aZ, aS, fieldAddr, bne_self_eq_false, gL, gB, gI]
      rw [aM (kX r6 okA)]
      simp only [aC, tyr, fgr, execOp, opd, ofValue, aD, put, nth, aB, und, lenOf, bor, aJ, aK, intOp, bU, dG, cW, convert, hU, qC, w1, gB]
      exact ih (i + 1) h6 n6 (qB L w2 (gQ w2 A.bT v.by_)) (xH (t - xH w2.value)) _ _ _ _ _ _ _ _ _ _ _ _ _ _ (by omega) hres k6' (y6.sub fun j q => .inl (.inl q)) (by rw [vB]; exact hl) (by omega) f6
def tY (L0 : List Ver) (tip : Int) (A : App) (L : List Ver) (t : Int) : Option (List Ver × Int) := match mO L0 tip A.made L t with
  | some r => mZ A.bT A.c8 r.1 r.2
  | none => none
theorem f69 (W K T : Nat → Prop) (s y a b : Nat) (A : App) (mv sv : a9) (L0 L : List Ver) (I : List Inf) (t : Int) (h : Hp) (n : Nat) (hy : Ixw K T h n y L) (hK : ∀ j, K j → j < n)
    (hSt : ∀ h' n', n ≤ n' → (∀ j, K j → h' j = h j) → St W h' n' s L0 I) (hAp : ∀ h', (∀ j, K j → h' j = h j) → jN h' a b A mv sv) (hb : b ≤ n)
    (hpn : ∀ v ∈ A.made, 0 ≤ v.pn) (hsl : ∀ v ∈ A.made, v.aR.length ≤ 1000000) (hI : I.length ≤ 1000000) (hL0 : L0.length ≤ 900000) (hL : L.length + A.made.length ≤ 900000) (hf : bO h n) :
    Wp (bD env (evalW env) 69 [.ptr s 0, .ptr y 0, .agg (bK A mv sv), .int .u64 t]) h n fun v' h' n' => (∀ j, K j → h' j = h j) ∧
      ((∃ L' t', tY L0 (((I.length : Nat) : Int) - 1) A L t = some (L', t') ∧ v' = .tup [.int .u64 t', .bool true] ∧ Ixw K T h' n' y L') ∨ (tY L0 (((I.length : Nat) : Int) - 1) A L t = none ∧ v' = .tup [.int .u64 0, .bool false])) := by
  have ha := hAp h fun j q => rfl
  refine bL ff69 fi69 ?_
  simp only [UT, Try.f69, Option.getD_some, List.replicate, aC, execOp, opd, nth, ended, aT, aU, Nat.reduceAdd, Nat.reduceSub, gL, gI]
  refine dA (v := .agg (bK A mv sv)) lY rfl hf fun H1 r1 o1 f1 => ?_
  replace r1 : Row H1 n (bK A mv sv) := r1
  have y1 := hy.grow (n' := n + 1) (by omega) (fun j hj => o1 j (by omega))
  have y1' : Ixw (fun j => K j ∨ j = n) T H1 (n + 1) y L := y1.sub fun j q => q.elim .inl fun q => .inr (by omega)
  have kk : ∀ h' : Hp, (∀ j, (K j ∨ j = n) → h' j = H1 j) → ∀ j, K j → h' j = h j := fun h' q j w => by rw [q j (.inl w), o1 j (by have := hK j w; omega)]
  have a1 := hAp H1 (kk H1 fun j _ => rfl)
  simp only [aC, tyr, fgr, execOp, opd, ofValue, aD, put, nth, aB, und, sizeOf, aZ, aS, fieldAddr, gL, gI]
  rw [aM (mI r1 ha.b)]
  simp only [aC, fgr, execOp, opd, bG, ofValue, aD, put, nth, aB, aL, builtin, dH, a1.m.len]
  refine JY _ _ W (fun j => K j ∨ j = n) T s y n a b A mv sv L0 I (mO L0 (((I.length : Nat) : Int) - 1) A.made L t) H1 (n + 1) (fun j q => by rcases q with q | q; have := hK j q; omega; omega) (.inr rfl) (fun h' n' q w => hSt h' n' (by omega) (kk h' w)) (fun h' w => hAp h' (kk h' w)) (by omega) r1 hpn hsl hI hL0 ?_ ?_ A.made.length 0 H1 (n + 1) L t _ _ _ _ _ _ _ _ _ _ _ _ _ (by omega) rfl (fun j _ => rfl) y1' (by omega) (Nat.le_refl _) f1
  · intro h2 n2 L2 t2 x2 x11 x13 x15 x16 x17 x22 x43 x51 x52 x53 x54 x80 hres k2 y2 hl2 hn2 f2
    have rc2 : Row h2 n (bK A mv sv) := r1.aX (k2 n (.inr rfl))
    have a2 := hAp h2 (kk h2 k2)
    simp only [aC, tyr, execOp, opd, aD, put, nth, und, sizeOf, aZ, aS, fieldAddr, gL, gI]
    rw [aM (tO rc2 ha.b)]
    simp only [aC, fgr, execOp, opd, bG, ofValue, aD, put, nth, aB, aL, builtin, dH, a2.s.len]
    refine JX _ _ (fun j => K j ∨ j = n) T y n a b A mv sv (mZ A.bT A.c8 L2 t2) h2 n2 (fun j q => by rcases q with q | q; have := hK j q; omega; omega) (.inr rfl) (fun h' w => hAp h' (kk h' fun j q => (w j q).trans (k2 j q))) rc2 ?_ ?_ A.c8.length 0 h2 n2 L2 t2 _ _ _ _ _ _ _ _ _ _ _ _ _ _ (by omega) rfl (fun j _ => rfl) y2 hl2 (Nat.le_refl _) f2
    · intro h3 n3 L3 t3 x0 x2 x11 x13 x15 x16 x17 x19 x20 x21 x22 x43 x54 x80 hres3 k3 y3 hn3 f3
      simp only [aC, fgr, execOp, opd, ofValue, aD, put, nth, aB, gB]
      exact ⟨kk h3 fun j q => (k3 j q).trans (k2 j q), .inl ⟨L3, t3, by unfold tY; rw [hres]; exact hres3, rfl, y3.sub fun j q => .inl q⟩⟩
    · intro h3 n3 x0 x1 x2 x3 x6 x11 x13 x15 x16 x17 x19 x20 x21 x22 x43 x51 x52 x53 x54 x80 hres3 k3
      simp only [aC, nth, and_true, true_and]
      exact ⟨kk h3 fun j q => (k3 j q).trans (k2 j q), .inr (by unfold tY; rw [hres]; exact hres3)⟩
  · intro h3 n3 x0 x1 x2 x3 x6 x11 x13 x15 x16 x17 x19 x20 x21 x22 x43 x51 x52 x53 x54 x80 hres3 k3
    simp only [aC, nth, and_true, true_and]
    exact ⟨kk h3 k3, .inr (by unfold tY; rw [hres3])⟩
def jB (I : List Inf) : Inf := (I.getLast?).getD gP
theorem b61 : build env 61 [] = M.pure (.agg (bX gP)) := rfl
end Go.Am.Ytlgebaofkolkoaa
set_option linter.unusedSimpArgs false
set_option linter.unusedVariables false
set_option linter.defProp false
set_option maxRecDepth 10000
namespace Go.Am.Ytlgebaofkolkoaa
open Go Go.Am Go.Proofs
theorem f68 (s x : Nat) (lv : a9) (I : List Inf) (h : Hp) (n : Nat) (hr : Row h s [.ptr x 0, lv]) (hi : IL h lv I) (hs : s < n) (hlv : ∀ j, bB lv = some j → j < n) (hc : I.length ≤ 1000000) (hf : bO h n) :
    Wp (bD env (evalW env) 68 [.ptr s 0]) h n fun v' h' n' => v' = .agg (bX (jB I)) ∧ (jB I).block.length = 32 ∧ Old h h' n := by
  refine bL ff68 fi68 ?_
  simp only [UU, Try.f68, Option.getD_some, List.replicate, aC, execOp, ended, aT, aU, Nat.reduceSub, gL, gI]
  rw [cD iI rfl]
  obtain ⟨H1, hH1⟩ : ∃ H1, H1 = upd h n (some (.row (.l (bX gP)) 61)) := ⟨_, rfl⟩
  have g1 : H1 n = some (.row (.l (bX gP)) 61) := by rw [hH1, aW]
  have o1 : ∀ j, j ≠ n → H1 j = h j := fun j hj => by rw [hH1, aP _ _ hj]
  have f1 : bO H1 (n + 1) := by rw [hH1]; exact hf.new
  show Ops _ _ _ _ _ _ _ _ (upd h n (some (.row (.l (bX gP)) 61))) _
  rw [← hH1]
  clear hH1
  have r1 : Row H1 s [.ptr x 0, lv] := hr.aX (o1 s (by omega))
  have i1 : IL H1 lv I := hi.aX fun j q => o1 j (by have := hlv j q; omega)
  simp only [aC, tyr, fgr, execOp, opd, aD, put, nth, aB, und, sizeOf, nilCheck, aZ, aS, fieldAddr, gL, gI]
  rw [aM (r1.one (off := 1) rfl sX rfl)]
  simp only [aC, fgr, execOp, opd, bG, ofValue, aD, put, nth, aB, aL, builtin, dH, bor, aJ, aK, intOp, i1.len, gB, gI]
  by_cases h0 : I.length = 0
  · have hI : I = [] := List.eq_nil_of_length_eq_zero h0
    subst hI
    simp only [aC, execOp, opd, dE, aD, put, nth, Int.cast_ofNat_Int, b61, gL, gB]
    rw [dR (Row.write (v := .agg (bX gP)) g1 iI (cE fV) (by rw [cE fV]; show 0 + 37 ≤ 37; omega) (fL _))]
    rw [dZ (by rfl)]
    simp only [aC, fgr, aD, nth, aB, cel, true_and]
    refine eQ (Row.whole (cs := bX gP) ⟨61, aW _ _ _⟩ iI rfl (cE fV)) (wp_pure.2 ?_)
    exact ⟨rfl, fV, fun j hj => by rw [aP _ _ (by omega), o1 j (by omega)]⟩
  · have hb : (((I.length : Nat) : Int) == 0) = false := by rw [beq_eq_false_iff_ne]; omega
    have h0' : ¬ ((I.length : Nat) : Int) = 0 := by omega
    simp only [aC, decide_false, h0']
    have hil : I.length - 1 < I.length := by omega
    have w1 : IntKind.i64.wrap (((I.length : Nat) : Int) - 1) = ((I.length - 1 : Nat) : Int) := by rw [w64 (by omega) (by omega)]; omega
    have hlast : jB I = I[I.length - 1] := by
      unfold jB
      rw [List.getLast?_eq_getElem?, List.getElem?_eq_getElem hil]; rfl
    obtain ⟨bok, hld⟩ := i1.all (n := n + 1) hil
    rw [hlast]
    refine cG ⟨rfl, ?_⟩
    simp only [aF, aI, aC, tyr, execOp, opd, aD, put, nth, und, sizeOf, nilCheck, aZ, aS, fieldAddr, Nat.reduceAdd, gL, gI]
    rw [bP (r1.one (off := 1) rfl sX rfl)]
    simp only [aF, aI, aC, tyr, execOp, opd, aD, put, nth, und, sizeOf, nilCheck, aZ, aS, fieldAddr, Nat.reduceAdd, gL, gI]
    rw [bP (r1.one (off := 1) rfl sX rfl)]
    simp only [aF, aI, execOp, opd, bG, ofValue, aD, put, nth, aL, builtin, dH, bor, aJ, aK, intOp, bU, Nat.reduceAdd, i1.len, w1, gB]
    rw [bP (i1.idx hil)]
    simp only [aF, execOp, opd, aD, put, nth, Nat.reduceAdd]
    rw [bP hld]
    simp only [aF, execOp, opd, aD, put, nth, Nat.reduceAdd]
    refine jH (Row.write (v := .agg (bX I[I.length - 1])) g1 iI (cE bok) (by rw [cE fV]; show 0 + 37 ≤ 37; omega) (fL _)) ?_
    rw [dZ (by show (bX _).length = _; rw [cE bok, cE fV])]
    simp only [bY, aC, fgr, aD, nth, aB, cel, Nat.reduceAdd, true_and]
    refine ⟨(by (try simp (disch := first | assumption | omega) only [dF, List.all_cons, List.all_nil, gB, gF]); repeat' (first | rfl | exact (Bool.or_eq_true _ _).mpr (.inr rfl) | refine (Bool.and_eq_true _ _).mpr ⟨?_, ?_⟩)), ?_⟩
    refine eQ (Row.whole (cs := bX I[I.length - 1]) ⟨61, aW _ _ _⟩ iI rfl (cE bok)) (wp_pure.2 ?_)
    exact ⟨rfl, bok, fun j hj => by rw [aP _ _ (by omega), o1 j (by omega)]⟩
def tG (z : Int) : Int := IntKind.i64.wrap z
def vJ (t : Int) : Bool := decide (2100000000000000 < t)
def mU (I : List Inf) (A : App) (t : Int) : Inf := ⟨A.bT, A.block, tG (tG ((jB I).jD + (A.made.length : Nat)) - (A.c8.length : Nat)), tG t, tG ((jB I).eW + A.eW), tG ((jB I).left + A.left)⟩
def fF (L : List Ver) (I : List Inf) (A : App) : Option (List Ver × List Inf) := match lU A && decide (A.bT = ((I.length : Nat) : Int)) with
  | false => none
  | true => match tY L (((I.length : Nat) : Int) - 1) A L (xH (jB I).total) with
    | none => none
    | some r => match vJ r.2 || vJ (tG ((jB I).eW + A.eW)) || vJ (tG ((jB I).left + A.left)) with
      | true => none
      | false => some (r.1, I ++ [mU I A r.2])
def EE (o : Option (List Ver × List Inf)) : Int := match o with
  | some _ => 0
  | none => 220
theorem yW {A : App} (h : lU A = true) : ∀ v ∈ A.made, v.aR.length ≤ 2000 ∧ nQ A.bT v = true := fun v hv => by
  obtain ⟨k, hk, rfl⟩ := List.mem_iff_getElem.1 hv
  unfold lU iW at h
  rw [Bool.and_eq_true, List.all_eq_true] at h
  have := h.2 k (List.mem_range.2 (by omega))
  unfold vR at this
  rw [if_pos hk] at this
  unfold GQ at this
  rw [List.getElem?_eq_getElem hk] at this
  simp only [Bool.and_eq_true] at this
  refine ⟨?_, this.1⟩
  have := this.1
  unfold nQ at this
  simp only [Bool.and_eq_true, decide_eq_true_eq] at this
  exact this.2
def i0 : a9 := .int .i64 0
theorem P4 {i : Inf} (hb : i.block.length = 32) : build env 61 [(0, .int .i64 i.bT), (1, .agg (i.block.map u8)), (2, .int .i64 i.jD), (3, .int .i64 i.total), (4, .int .i64 i.eW), (5, .int .i64 i.left)] = M.pure (.agg (bX i)) := by
  have hB : (a9.agg (i.block.map u8)).cells.length = 32 := by show (i.block.map u8).length = 32; rw [List.length_map, hb]
  have hB' : (i.block.map u8).length = 32 := by rw [List.length_map, hb]
  have e1 : ∀ pl : Nat → Option (Nat × Nat), pl 0 = some (0, 1) → pl 1 = some (1, 32) → pl 2 = some (33, 1) → pl 3 = some (34, 1) → pl 4 = some (35, 1) → pl 5 = some (36, 1) →
      fill pl sW.i.zero.cells [(0, .int .i64 i.bT), (1, .agg (i.block.map u8)), (2, .int .i64 i.jD), (3, .int .i64 i.total), (4, .int .i64 i.eW), (5, .int .i64 i.left)] = some (bX i) := fun pl p0 p1 p2 p3 p4 p5 => by
    rw [show sW.i.zero.cells = [] ++ [i0] ++ (z32.map u8 ++ [i0, i0, i0, i0]) from rfl, hO p0 rfl rfl rfl rfl]
    rw [show [] ++ (a9.int .i64 i.bT).cells ++ (z32.map u8 ++ [i0, i0, i0, i0]) = [.int .i64 i.bT] ++ z32.map u8 ++ [i0, i0, i0, i0] from rfl, hO p1 rfl rfl hB rfl]
    rw [show [a9.int .i64 i.bT] ++ (a9.agg (i.block.map u8)).cells ++ [i0, i0, i0, i0] = (.int .i64 i.bT :: i.block.map u8) ++ [i0] ++ [i0, i0, i0] by simp [a9.cells], hO p2 (by simp [hb]) rfl rfl rfl]
    rw [show (a9.int .i64 i.bT :: i.block.map u8) ++ (a9.int .i64 i.jD).cells ++ [i0, i0, i0] = (.int .i64 i.bT :: i.block.map u8 ++ [.int .i64 i.jD]) ++ [i0] ++ [i0, i0] by simp [a9.cells], hO p3 (by simp [hb]) rfl rfl rfl]
    rw [show (a9.int .i64 i.bT :: i.block.map u8 ++ [.int .i64 i.jD]) ++ (a9.int .i64 i.total).cells ++ [i0, i0] = (.int .i64 i.bT :: i.block.map u8 ++ [.int .i64 i.jD, .int .i64 i.total]) ++ [i0] ++ [i0] by simp [a9.cells], hO p4 (by simp [hb]) rfl rfl rfl]
    rw [show (a9.int .i64 i.bT :: i.block.map u8 ++ [.int .i64 i.jD, .int .i64 i.total]) ++ (a9.int .i64 i.eW).cells ++ [i0] = (.int .i64 i.bT :: i.block.map u8 ++ [.int .i64 i.jD, .int .i64 i.total, .int .i64 i.eW]) ++ [i0] ++ [] by simp [a9.cells], hO p5 (by simp [hb]) rfl rfl rfl]
    simp only [fill, bX, a9.cells]
    simp
  have e2 : build env 61 [(0, .int .i64 i.bT), (1, .agg (i.block.map u8)), (2, .int .i64 i.jD), (3, .int .i64 i.total), (4, .int .i64 i.eW), (5, .int .i64 i.left)] = (aZ "build" (fill ([(0, 1), (1, 32), (33, 1), (34, 1), (35, 1), (36, 1)][·]?) sW.i.zero.cells [(0, .int .i64 i.bT), (1, .agg (i.block.map u8)), (2, .int .i64 i.jD), (3, .int .i64 i.total), (4, .int .i64 i.eW), (5, .int .i64 i.left)])).bind fun cs => M.pure (.agg cs) := rfl
  rw [e2, e1 _ rfl rfl rfl rfl rfl rfl]
  rfl
theorem bs57 {X : List a9} (hX : X.length = 37) : buildSlice env 57 1 [(0, .agg X)] = (newRow env 61 X).bind fun id => M.pure (.sl id 0 1 (some 1) 37) := by
  have e1 : fill (fun k => some (k * 37, 37)) (fQ sW.i.zero.cells 1) [(0, .agg X)] = some X := by
    have : fQ sW.i.zero.cells 1 = [] ++ sW.i.zero.cells ++ [] := rfl
    rw [this, hO (off := 0) (sz := 37) (pre := []) (mid := sW.i.zero.cells) (post := []) (v := .agg X) (rest := []) rfl rfl rfl hX rfl]
    simp [fill, a9.cells]
  have e2 : buildSlice env 57 1 [(0, .agg X)] = (aZ "buildSlice" (fill (fun k => some (k * 37, 37)) (fQ sW.i.zero.cells 1) [(0, .agg X)])).bind fun cs => (newRow env 61 cs).bind fun id => M.pure (.sl id 0 1 (some 1) 37) := rfl
  rw [e2, e1]
  rfl
theorem f19 {W : Nat → Prop} {h : Hp} {n s : Nat} {L : List Ver} {I : List Inf} (q : St W h n s L I) (A : App) (mv sv : a9) (a b : Nat) (ha : jN h a b A mv sv) (hb : b ≤ n) (haW : ∀ j, a ≤ j → j < b → ¬ W j)
    (hpn : ∀ v ∈ A.made, 0 ≤ v.pn) (hI : I.length ≤ 900000) (hL : L.length + A.made.length ≤ 900000) (hf : bO h n) :
    Wp (bD env (evalW env) 19 [.ptr s 0, .agg (bK A mv sv)]) h n fun v' h' n' => v' = .int .i64 (EE (fF L I A)) ∧ (∀ j, j < n → j ≠ s → h' j = h j) ∧ St W h' n' s ((fF L I A).getD (L, I)).1 ((fF L I A).getD (L, I)).2 := by
  have sn := q.sn
  refine bL ff19 fi19 ?_
  simp only [VK, Try.f19, Option.getD_some, List.replicate, aC, execOp, opd, nth, ended, aT, aU, Nat.reduceAdd, Nat.reduceSub, gL, gI]
  refine dA (v := .agg (bK A mv sv)) lY rfl hf fun H1 r1 o1 f1 => ?_
  replace r1 : Row H1 n (bK A mv sv) := r1
  have O1 : Old h H1 n := fun j hj => o1 j (by omega)
  have q1 := q.old (n' := n + 1) (by omega) O1
  have a1 : jN H1 a b A mv sv := ha.aX fun j _ w => O1 j (by omega)
  obtain ⟨x, lv, rs, ix, il, sa, sb, sc⟩ := q1
  simp only [aC, fgr, hkr, execOp, opd, bG, ofValue, aD, put, nth, aB, aL, aE, gL]
  refine eL (f66 s x lv H1 (n + 1) rs) ?_
  simp only [aC, fgr, execOp, opd, aD, put, nth, aB]
  refine cG ⟨rfl, ?_⟩
  simp only [aF, execOp, opd, nth]
  rw [bP (lX r1 ha.b)]
  simp only [aF, hkr, execOp, opd, bG, aD, put, nth, aL, aE, gL, gI]
  refine eF f1 (f67 A mv sv a b H1 (n + 1) a1 (by omega) f1) fun v2 h2 n2 rr2 ww2 hn2 f2 ⟨e2, o2⟩ => ?_
  subst e2
  have k2 : ∀ j, j < n → h2 j = h j := fun j hj => by rw [o2 j (by omega), O1 j hj]
  have r2 : Row h2 n (bK A mv sv) := r1.aX (o2 n (by omega))
  have q2 := q.old (n' := n2) (by omega) (fun j hj => k2 j hj)
  cases hck : lU A with
  | false =>
    have hno : fF L I A = none := by unfold fF; rw [hck]; rfl
    rw [hno]
    simp only [bY, aF, cS, cM, cR, mD, eX, aI, aC, fgr, execOp, opd, ofValue, aD, put, nth, aB, bor, aJ, aK, intOp, bC, branch, Nat.reduceAdd, ↓reduceIte, Int.reduceEq, reduceCtorEq, gL, gB, gI]
    refine ⟨(by (try simp (disch := first | assumption | omega) only [dF, List.all_cons, List.all_nil, gB, gF]); repeat' (first | rfl | exact (Bool.or_eq_true _ _).mpr (.inr rfl) | refine (Bool.and_eq_true _ _).mpr ⟨?_, ?_⟩)), ?_⟩
    exact ⟨rfl, fun j hj _ => k2 j hj, q2⟩
  | true =>
  obtain ⟨x, lv, rs, ix, il, sa, sb, sc⟩ := q2
  have w1 : IntKind.i64.wrap (((I.length : Nat) : Int) - 1 + 1) = ((I.length : Nat) : Int) := by rw [w64 (by omega) (by omega)]; omega
  simp only [aF, cS, cM, cR, gD, aI, aC, tyr, execOp, opd, ofValue, aD, put, nth, und, sizeOf, bor, aJ, aK, intOp, aZ, aS, fieldAddr, Nat.reduceAdd, ↓reduceIte, bne_self_eq_false, gL, gB, gI]
  rw [bP (tP r2)]
  simp only [cS, cM, cR, gD, aI, hkr, execOp, opd, bG, aD, put, nth, aL, aE, Nat.reduceAdd, gL]
  rw [bP (NF s x lv I h2 n2 rs il (by omega))]
  simp only [bY, aF, cS, cM, cR, gD, eX, aI, aC, fgr, execOp, opd, ofValue, aD, put, nth, aB, bor, aJ, aK, intOp, bU, bC, branch, Nat.reduceAdd, decide_not, w1, gL, gB, gI]
  by_cases hh : A.bT = ((I.length : Nat) : Int)
  · simp only [aC, tyr, execOp, opd, aD, put, nth, und, sizeOf, nilCheck, aZ, aS, fieldAddr, hh, gL, gB, gI]
    refine ⟨(by (try simp (disch := first | assumption | omega) only [dF, List.all_cons, List.all_nil, gB, gF]); repeat' (first | rfl | exact (Bool.or_eq_true _ _).mpr (.inr rfl) | refine (Bool.and_eq_true _ _).mpr ⟨?_, ?_⟩)), ?_⟩
    rw [aM (rs.one (off := 0) rfl qA rfl)]
    simp only [aC, hkr, execOp, opd, bG, aD, put, nth, aL, aE, gL]
    have ixx := ix
    obtain ⟨⟨D0, M0, ixi, ixk, ixt⟩, ixg⟩ := ixx
    refine bF f2 (f41 x L D0 M0 h2 n2 ixi (by omega) f2) fun v3 h3 n3 hn3 f3 ⟨y, M', e3, i3, hM, o3⟩ => ?_
    subst e3
    have y3 : Ixw (fun j => j < n2) W h3 n3 y L := ⟨⟨D0, M', i3, fun j hj => ⟨by omega, fun w => by have := hM j w; omega⟩, fun j hj => ⟨by have := (ixt j hj).1; omega, (ixt j hj).2⟩⟩, ixg⟩
    have rs3 := rs.aX (o3 s (by omega))
    have il3 : IL h3 lv I := il.aX fun j w => o3 j (by have := (sa j w).1; omega)
    simp only [aC, hkr, execOp, opd, bG, aD, put, nth, aL, aE, gL]
    refine bF f3 (f68 s x lv I h3 n3 rs3 il3 (by omega) (fun j w => by have := (sa j w).1; omega) (by omega) f3) fun v4 h4 n4 hn4 f4 ⟨e4, lb, o4⟩ => ?_
    subst e4
    simp only [aC, execOp, aD, put]
    rw [cD iI rfl]
    simp only [aC, execOp, opd, aD, put, nth, cel]
    refine dQ (v := .agg (bX (jB I))) iI rfl (cE lb) (fL _) f4 fun H5 r5 o5 f5 => ?_
    replace r5 : Row H5 n4 (bX (jB I)) := r5
    have O35 : Old h3 H5 n3 := fun j hj => by rw [o5 j (by omega), o4 j hj]
    have y5 := y3.grow (n' := n4 + 1) (by omega) O35
    have K5 : ∀ j, j < n → H5 j = h j := fun j hj => by rw [O35 j (by omega), o3 j (by omega), k2 j hj]
    have r25 : Row H5 n (bK A mv sv) := r2.aX (by rw [O35 n (by omega), o3 n (by omega)])
    simp only [aC, fgr, execOp, opd, aD, put, nth, aB]
    rw [aM (lX r25 ha.b)]
    simp only [aC, tyr, execOp, opd, aD, put, nth, und, sizeOf, aZ, aS, fieldAddr, gL, gI]
    rw [aM (Row.one (off := 34) r5 (lO lb 1) ti2 rfl)]
    simp only [aC, tyr, hkr, execOp, opd, bG, aD, put, nth, aL, aE, und, lenOf, bU, dG, cW, convert, hU, qC, gL]
    have KK : ∀ h' : Hp, (∀ j, (j < n2 ∨ (n3 ≤ j ∧ j < n4 + 1)) → h' j = H5 j) → ∀ j, j < n → h' j = h j := fun h' w j hj => by rw [w j (.inl (by omega)), K5 j hj]
    refine bF f5 (f69 W (fun j => j < n2 ∨ (n3 ≤ j ∧ j < n4 + 1)) W s y a b A mv sv L L I (xH (jB I).total) H5 (n4 + 1) y5 (fun j w => by omega) (fun h' n' hn' w => q.old (by omega) fun j hj => KK h' w j hj) (fun h' w => ha.aX fun j _ q => KK h' w j (by omega)) (by omega) hpn (fun v hv => by have := (yW hck v hv).1; omega) (by omega) (by omega) hL f5) fun v6 h6 n6 hn6 f6 ⟨k6, hd⟩ => ?_
    have r26 : Row h6 n (bK A mv sv) := r25.aX (k6 n (.inl (by omega)))
    have r56 : Row h6 n4 (bX (jB I)) := r5.aX (k6 n4 (.inr (by omega)))
    have q6 := q.old (n' := n6) (by omega) (KK h6 k6)
    have w8 : ∀ u v : Int, IntKind.i64.wrap (u + v) = tG (u + v) := fun u v => rfl
    rcases hd with ⟨L', t', hd, e6, y6⟩ | ⟨hd, e6⟩
    · subst e6
      simp only [aC, fgr, execOp, opd, aD, put, nth, aB, extract, aZ, gL]
      refine cG ⟨rfl, ?_⟩
      simp only [aF, aI, aC, tyr, execOp, opd, aD, put, nth, und, sizeOf, aZ, aS, fieldAddr, gL, gI]
      rw [bP (Row.one (off := 35) r56 (lO lb 2) ti2 rfl)]
      simp only [aF, aI, aC, tyr, execOp, opd, aD, put, nth, und, sizeOf, aZ, aS, fieldAddr, Nat.reduceAdd, gL, gI]
      rw [bP (AL r26 ha.b)]
      simp only [aF, aI, aC, tyr, execOp, opd, aD, put, nth, und, sizeOf, bor, aJ, aK, intOp, bU, aZ, aS, fieldAddr, Nat.reduceAdd, gL, gB, gI]
      rw [bP (Row.one (off := 36) r56 (lO lb 3) ti2 rfl)]
      simp only [aF, aI, aC, tyr, execOp, opd, aD, put, nth, und, sizeOf, aZ, aS, fieldAddr, Nat.reduceAdd, gL, gI]
      rw [bP (AK r26 ha.b)]
      simp only [bY, aF, aI, aC, fgr, execOp, opd, ofValue, aD, put, nth, aB, bor, aJ, aK, intOp, bU, unOp, bC, branch, Nat.reduceAdd, gt_iff_lt, gL, gB]
      refine ⟨(by (try simp (disch := first | assumption | omega) only [dF, List.all_cons, List.all_nil, gB, gF]); repeat' (first | rfl | exact (Bool.or_eq_true _ _).mpr (.inr rfl) | refine (Bool.and_eq_true _ _).mpr ⟨?_, ?_⟩)), ?_⟩
      by_cases c1 : 2100000000000000 < t'
      · have hno : fF L I A = none := by unfold fF vJ; rw [hck, decide_eq_true hh, hd]; simp only [Bool.and_self]; rw [decide_eq_true c1]; rfl
        rw [hno]
        simp only [aC, fgr, execOp, opd, ofValue, aD, put, nth, aB, bC, branch, c1, gL, gB]
        exact ⟨rfl, fun j hj _ => KK h6 k6 j hj, q6⟩
      simp only [aC, execOp, opd, ofValue, aD, put, nth, bor, aJ, aK, intOp, bC, branch, gt_iff_lt, c1, gL, gB]
      by_cases c2 : 2100000000000000 < IntKind.i64.wrap ((jB I).eW + A.eW)
      · have hno : fF L I A = none := by unfold fF vJ tG; rw [hck, decide_eq_true hh, hd]; simp only [Bool.and_self]; rw [decide_eq_true c2]; simp only [Bool.or_true, Bool.true_or]
        rw [hno]
        simp only [aC, fgr, execOp, opd, ofValue, aD, put, nth, aB, bC, branch, c2, gL, gB]
        exact ⟨rfl, fun j hj _ => KK h6 k6 j hj, q6⟩
      simp only [aC, fgr, execOp, opd, ofValue, aD, put, nth, aB, bor, aJ, aK, intOp, bC, branch, gt_iff_lt, c2, gL, gB]
      by_cases c3 : 2100000000000000 < IntKind.i64.wrap ((jB I).left + A.left)
      · have hno : fF L I A = none := by unfold fF vJ tG; rw [hck, decide_eq_true hh, hd]; simp only [Bool.and_self]; rw [decide_eq_true c3]; simp only [Bool.or_true]
        rw [hno]
        simp only [aC, fgr, execOp, opd, ofValue, aD, put, nth, aB, c3, gB]
        exact ⟨rfl, fun j hj _ => KK h6 k6 j hj, q6⟩
      have hyes : fF L I A = some (L', I ++ [mU I A t']) := by unfold fF vJ tG; rw [hck, decide_eq_true hh, hd]; simp only [Bool.and_self]; rw [decide_eq_false c1, decide_eq_false c2, decide_eq_false c3]; rfl
      rw [hyes]
      obtain ⟨x6, lv6, rs6, ix6, il6, sa6, sb6, sc6⟩ := q6
      obtain ⟨et, hs6⟩ := rs6
      simp only [aC, tyr, execOp, opd, aD, put, nth, und, sizeOf, nilCheck, aZ, aS, fieldAddr, c3, gL, gB, gI]
      rw [dR (Row.write (off := 0) (v := .ptr y 0) hs6 qA rfl (by show 0 + 1 ≤ 2; omega) rfl)]
      obtain ⟨h7, hh7⟩ : ∃ h7, h7 = upd h6 s (some (.row (.l [.ptr y 0, lv6]) et)) := ⟨_, rfl⟩
      show Ops _ _ _ _ _ _ _ _ (upd h6 s (some (.row (.l [.ptr y 0, lv6]) et))) _
      rw [← hh7]
      have s7 : h7 s = some (.row (.l [.ptr y 0, lv6]) et) := by rw [hh7, aW]
      have o7 : ∀ j, j ≠ s → h7 j = h6 j := fun j hj => by rw [hh7, aP _ _ hj]
      have f7 : bO h7 n6 := by rw [hh7]; exact f6.upd (by omega)
      clear hh7
      have r27 : Row h7 n (bK A mv sv) := r26.aX (o7 n (by omega))
      have r57 : Row h7 n4 (bX (jB I)) := r56.aX (o7 n4 (by omega))
      have il7 : IL h7 lv6 I := il6.aX fun j w => o7 j (fun e => (sa6 j w).2 (by rw [e]; exact sb6))
      simp only [aC, fgr, aD, aB]
      refine cG ⟨rfl, ?_⟩
      simp only [aF, aI, aC, tyr, execOp, opd, aD, put, nth, und, sizeOf, nilCheck, aZ, aS, fieldAddr, Nat.reduceAdd, gL, gI]
      rw [bP (Row.one (off := 1) ⟨et, s7⟩ rfl sX rfl)]
      simp only [aF, hkr, execOp, opd, bG, aD, put, nth, aL, aE, Nat.reduceAdd, gL]
      refine oU f7 (f70 lv6 I h7 (fun _ => none) n6 il7) (f70 lv6 I h7 h7 n6 il7) fun v8 h8 n8 hn8 f8 ⟨e8, eh8, en8⟩ => ?_
      subst e8; subst eh8; subst en8
      simp only [aF, aI, aC, tyr, execOp, opd, aD, put, nth, und, sizeOf, aZ, aS, fieldAddr, Nat.reduceAdd, gL, gI]
      rw [bP (tP r27)]
      simp only [aF, aI, aC, tyr, execOp, opd, aD, put, nth, und, sizeOf, aZ, aS, fieldAddr, Nat.reduceAdd, gL, gI]
      rw [bP (PF r27 ha.b)]
      simp only [aF, aI, aC, tyr, execOp, opd, aD, put, nth, und, sizeOf, aZ, aS, fieldAddr, Nat.reduceAdd, gL, gI]
      rw [bP (Row.one (off := 33) r57 (lO lb 0) ti3 rfl)]
      simp only [aF, aI, aC, tyr, execOp, opd, aD, put, nth, und, sizeOf, aZ, aS, fieldAddr, Nat.reduceAdd, gL, gI]
      rw [bP (mI r27 ha.b)]
      simp only [aF, aI, aC, tyr, execOp, opd, bG, aD, put, nth, aL, builtin, dH, und, sizeOf, bor, aJ, aK, intOp, bU, aZ, aS, fieldAddr, Nat.reduceAdd, ha.m.len, gL, gB, gI]
      rw [bP (tO r27 ha.b)]
      simp only [aF, aI, aC, tyr, execOp, opd, bG, dE, aD, put, nth, aL, builtin, dH, und, lenOf, bor, aJ, aK, intOp, bU, dG, cW, Nat.reduceAdd, ha.s.len, convert, hU, qC, gB]
      have hb61 : build env 61 [(0, .int .i64 A.bT), (1, .agg (A.block.map u8)), (2, .int .i64 (IntKind.i64.wrap (IntKind.i64.wrap ((jB I).jD + (A.made.length : Nat)) - (A.c8.length : Nat)))), (3, .int .i64 (IntKind.i64.wrap t')), (4, .int .i64 (IntKind.i64.wrap ((jB I).eW + A.eW))), (5, .int .i64 (IntKind.i64.wrap ((jB I).left + A.left)))] = M.pure (.agg (bX (mU I A t'))) := P4 (i := mU I A t') ha.b
      rw [hb61]
      simp only [aF, aI, execOp, opd, dE, aD, put, nth, Nat.reduceAdd, bs57 (X := bX (mU I A t')) (cE (show (mU I A t').block.length = 32 from ha.b))]
      refine jI iI f7 fun H9 g9 o9 f9 => ?_
      simp only [aF, execOp, opd, bG, aD, put, nth, aL, builtin, fC, Nat.reduceAdd]
      obtain ⟨cells, c1, c2⟩ := il7
      have c1' := c1.aX (h' := H9) fun j w => o9 j (by have := (sa6 j w).1; omega)
      refine eF f9 (xF (i := sW.i) (k := 1) c1' (nE g9 (cE (show (mU I A t').block.length = 32 from ha.b))) u57 u57 iI (by omega) (by show 2 * (I.length + 1) * 72 ≤ _; omega) (by omega)) fun v10 h10 n10 rr10 ww10 hn10 f10 ⟨e10, eh10, en10⟩ => ?_
      subst e10; subst en10
      have o10 : ∀ j, j ≠ n8 + 1 → h10 j = H9 j := fun j hj => by rw [eh10, aP _ _ hj]
      have g10 : h10 (n8 + 1) = some (.row (.l (cells ++ bX (mU I A t'))) 61) := by rw [eh10, aW]
      clear eh10
      have s10 : h10 s = some (.row (.l [.ptr y 0, lv6]) et) := by rw [o10 s (by omega), o9 s (by omega)]; exact s7
      simp only [aF, aI, aC, tyr, execOp, opd, aD, put, nth, und, sizeOf, nilCheck, aZ, aS, fieldAddr, Nat.reduceAdd, gL, gI]
      refine jH (Row.write (off := 1) (v := .sl (n8 + 1) 0 (I.length + 1) none 37) s10 sX rfl (by show 1 + 1 ≤ 2; omega) rfl) ?_
      obtain ⟨hZ, hhZ⟩ : ∃ hZ, hZ = upd h10 s (some (.row (.l [.ptr y 0, .sl (n8 + 1) 0 (I.length + 1) none 37]) et)) := ⟨_, rfl⟩
      show Fe _ _ _ _ _ _ _ _ _ _ (upd h10 s (some (.row (.l [.ptr y 0, .sl (n8 + 1) 0 (I.length + 1) none 37]) et))) _
      rw [← hhZ]
      have sZ : Row hZ s [.ptr y 0, .sl (n8 + 1) 0 (I.length + 1) none 37] := ⟨et, by rw [hhZ, aW]⟩
      have oZ : ∀ j, j < n8 → j ≠ s → hZ j = h6 j := fun j h1 h2 => by rw [hhZ, aP _ _ h2, o10 j (by omega), o9 j (by omega), o7 j h2]
      have gZ : hZ (n8 + 1) = some (.row (.l (cells ++ bX (mU I A t'))) 61) := by rw [hhZ, aP _ _ (by omega)]; exact g10
      clear hhZ
      simp only [bY, aC, fgr, execOp, opd, ofValue, aD, put, nth, aB, Nat.reduceAdd, gB]
      have q0 : ∀ id, id ∈ [s] → id < n8 ∨ n8 + 1 ≤ id := fun id w => by rw [List.mem_singleton] at w; omega
      have q1 : ∀ id, id ∈ [n] → id < n8 ∨ n8 + 1 ≤ id := fun id w => by rw [List.mem_singleton] at w; omega
      have q2 : ∀ id, id ∈ [n4] → id < n8 ∨ n8 + 1 ≤ id := fun id w => by rw [List.mem_singleton] at w; omega
      have q3 : ∀ id, id ∈ ([] : List Nat) → id < n8 ∨ n8 + 1 ≤ id := fun id w => by cases w
      refine ⟨(by (try simp (disch := first | assumption | omega) only [dF, List.all_cons, List.all_nil, gB, gF]); repeat' (first | rfl | exact (Bool.or_eq_true _ _).mpr (.inr rfl) | refine (Bool.and_eq_true _ _).mpr ⟨?_, ?_⟩)), ?_⟩
      obtain ⟨⟨D', M1, i6, kk6, tt6⟩, gg6⟩ := y6
      have cl : cells.length = I.length * 37 := c1.rds.length
      simp only [Option.getD_some]
      refine ⟨rfl, fun j h1 h2 => by rw [oZ j (by omega) h2, KK h6 k6 j h1], y, _, sZ, ⟨⟨D', M1, i6.beside (by omega) fun j h1 h2 => oZ j h1 fun e => ?_, fun j w => ?_, fun j w => ?_⟩, gg6⟩, ⟨cells ++ bX (mU I A t'), ?_, fun j hj => ?_⟩, fun j w => ?_, sb6, fun j w => ?_⟩
      · subst e
        rcases h2 with h2 | h2
        · exact (tt6 j sb6).2 h2
        · exact (kk6 j (.inl (by omega))).2 h2
      · have := sc6 j w
        refine ⟨by omega, (kk6 j (.inl ?_)).2⟩
        have := sc j w
        omega
      · have := sc6 j w
        exact ⟨by omega, (tt6 j w).2⟩
      · rw [List.length_append]
        exact A0 gZ (by rw [List.length_append, cl, cE (show (mU I A t').block.length = 32 from ha.b)]; omega) (fun k w => by cases w)
      · rw [List.length_append] at hj
        by_cases hlt : j < I.length
        · rw [List.getElem_append_left hlt, List.drop_append_of_le_length (by omega), List.take_append_of_le_length (by rw [List.length_drop]; omega)]
          exact c2 j hlt
        · have : j = I.length := by simp at hj; omega
          subst this
          rw [← cl, List.drop_left, List.take_of_length_le (by rw [cE (show (mU I A t').block.length = 32 from ha.b)]; omega)]
          simp only [List.getElem_append_right (Nat.le_refl _), Nat.sub_self, List.getElem_cons_zero]
          exact ⟨trivial, ha.b⟩
      · injection w with w
        refine ⟨by omega, fun ww => ?_⟩
        have := sc6 j ww
        omega
      · have := sc6 j w
        omega
    · subst e6
      have hno : fF L I A = none := by unfold fF; rw [hck, decide_eq_true hh, hd]; rfl
      rw [hno]
      simp only [aC, fgr, execOp, opd, aD, put, nth, aB, extract, aZ, gL]
      refine cG ⟨rfl, ?_⟩
      simp only [aF, aI, aC, tyr, execOp, opd, aD, put, nth, und, sizeOf, aZ, aS, fieldAddr, gL, gI]
      rw [bP (Row.one (off := 35) r56 (lO lb 2) ti2 rfl)]
      simp only [aF, aI, aC, tyr, execOp, opd, aD, put, nth, und, sizeOf, aZ, aS, fieldAddr, Nat.reduceAdd, gL, gI]
      rw [bP (AL r26 ha.b)]
      simp only [aF, aI, aC, tyr, execOp, opd, aD, put, nth, und, sizeOf, bor, aJ, aK, intOp, bU, aZ, aS, fieldAddr, Nat.reduceAdd, gL, gB, gI]
      rw [bP (Row.one (off := 36) r56 (lO lb 3) ti2 rfl)]
      simp only [aF, aI, aC, tyr, execOp, opd, aD, put, nth, und, sizeOf, aZ, aS, fieldAddr, Nat.reduceAdd, gL, gI]
      rw [bP (AK r26 ha.b)]
      simp only [bY, aF, aI, aC, fgr, execOp, opd, ofValue, aD, put, nth, aB, bor, aJ, aK, intOp, bU, unOp, bC, branch, Nat.reduceAdd, gL, gB]
      refine ⟨(by (try simp (disch := first | assumption | omega) only [dF, List.all_cons, List.all_nil, gB, gF]); repeat' (first | rfl | exact (Bool.or_eq_true _ _).mpr (.inr rfl) | refine (Bool.and_eq_true _ _).mpr ⟨?_, ?_⟩)), ?_⟩
      exact ⟨rfl, fun j hj _ => KK h6 k6 j hj, q6⟩
  · have hno : fF L I A = none := by unfold fF; rw [hck, decide_eq_false hh]; rfl
    rw [hno]
    simp only [aC, fgr, execOp, opd, ofValue, aD, put, nth, aB, hh, gB]
    refine ⟨(by (try simp (disch := first | assumption | omega) only [dF, List.all_cons, List.all_nil, gB, gF]); repeat' (first | rfl | exact (Bool.or_eq_true _ _).mpr (.inr rfl) | refine (Bool.and_eq_true _ _).mpr ⟨?_, ?_⟩)), ?_⟩
    exact ⟨rfl, fun j hj _ => k2 j hj, q.old (by omega) fun j hj => k2 j hj⟩
theorem EX {P S : List Ver} {w : Ver} (r : dM false (P ++ w :: S)) : pos false (P ++ w :: S) w = P.length := by
  have hm : w ∈ P ++ w :: S := List.mem_append_right _ (List.mem_cons_self ..)
  obtain ⟨hp, hw⟩ := pos_at r (nF r w) hm
  have hl : P.length < (P ++ w :: S).length := by simp
  have hw2 : (P ++ w :: S)[P.length] = w := by simp
  have e0 : fM w w = 0 := oL.refl w
  rcases Nat.lt_trichotomy (pos false (P ++ w :: S) w) P.length with q | q | q
  · have := r.at_ hp hl q
    rw [hw, hw2] at this
    have : fM w w < 0 := this
    omega
  · exact q
  · have := r.at_ hl hp q
    rw [hw, hw2] at this
    have : fM w w < 0 := this
    omega
theorem LC {P S : List Ver} {w : Ver} (r : dM false (P ++ w :: S)) : kP (P ++ w :: S) w = P ++ S := by
  unfold kP iL
  rw [EX r]
  simp
theorem zM {P S : List Ver} {w v : Ver} (r : dM false (P ++ w :: S)) : qB (P ++ w :: S) w v = P ++ v :: S := by
  unfold qB
  rw [EX r]
  simp
def mE (z : Int) (v : Ver) : Option Ver := if z < v.made then none else if z < v.bZ ∧ 0 < v.bZ then some (gQ v 0 z32) else some v
def iR (z : Int) (L : List Ver) : List Ver := L.filterMap (mE z)
theorem LH {L : List Ver} {i : Nat} (h : i < L.length) (z : Int) : iR z (L.take (i + 1)) = iR z (L.take i) ++ (mE z L[i]).toList := by
  unfold iR
  rw [jO h, List.filterMap_append]
  cases e : mE z L[i] <;> simp [e]
theorem IL.pre {h : Hp} {v : a9} {I : List Inf} (l : IL h v I) {k : Nat} (hk : k ≤ I.length) : IL h (kA 0 k v) (I.take k) := by
  obtain ⟨cells, c1, c2⟩ := l
  refine ⟨cells.take (k * 37), ?_, fun j hj => ?_⟩
  · rw [List.length_take, Nat.min_eq_left hk]
    exact c1.pre hk
  · rw [List.length_take] at hj
    obtain ⟨a, b⟩ := c2 j (by omega)
    rw [List.getElem_take]
    refine ⟨?_, b⟩
    rw [List.drop_take, List.take_take, Nat.min_eq_left (by omega)]
    exact a
theorem TU (Q : eJ) (ks : List Kf) (K T : Nat → Prop) (v : a9) (s y n1 n2 : Nat) (z : Int) (L : List Ver) (h0 : Hp) (hKn : ∀ j, K j → j < n2) (hV : ∀ j, n1 ≤ j → j < n2 → K j) (hl : L.length ≤ 900000)
    (hv : VL h0 n1 n2 v L)
    (hT : ∀ (h : Hp) (n : Nat) (x4 x7 x8 x11 x29 x32 x43 : a9), (∀ j, K j → h j = h0 j) → Ixw K T h n y (iR z L) → n2 ≤ n → bO h n →
      dV env 22 none Q ks (.exit 1) (.ptr s 0 :: .int .i64 z :: a9.aA :: a9.aA :: x4 :: .ptr y 0 :: a9.aA :: x7 :: x8 :: a9.aA :: a9.aA :: x11 :: a9.aA :: a9.aA :: a9.aA :: a9.aA :: a9.aA :: a9.aA :: a9.aA :: a9.aA :: a9.aA :: a9.aA :: a9.aA :: a9.aA :: a9.aA :: a9.aA :: v :: .int .i64 (L.length : Nat) :: .int .i64 (L.length : Nat) :: x29 :: a9.aA :: a9.aA :: x32 :: a9.aA :: a9.aA :: a9.aA :: a9.aA :: a9.aA :: a9.aA :: a9.aA :: a9.aA :: a9.aA :: a9.aA :: x43 :: a9.aA :: a9.aA :: a9.aA :: a9.aA :: a9.aA :: a9.aA :: a9.aA :: a9.aA :: a9.aA :: a9.aA :: a9.aA :: a9.aA :: a9.aA :: a9.aA :: a9.aA :: a9.aA :: a9.aA :: a9.aA :: a9.aA :: a9.aA :: a9.aA :: a9.aA :: a9.aA :: a9.aA :: a9.aA :: a9.aA :: a9.aA :: a9.aA :: a9.aA :: a9.aA :: a9.aA :: []) h n) :
    ∀ (m i : Nat) (h : Hp) (n : Nat) (x4 x7 x8 x11 x29 x32 x43 : a9), i + m = L.length → (∀ j, K j → h j = h0 j) → Ixw K T h n y (iR z (L.take i) ++ L.drop i) → n2 ≤ n → bO h n →
      Run env 22 none Q (.loop DK) ks (.ptr s 0 :: .int .i64 z :: a9.aA :: a9.aA :: x4 :: .ptr y 0 :: a9.aA :: x7 :: x8 :: a9.aA :: a9.aA :: x11 :: a9.aA :: a9.aA :: a9.aA :: a9.aA :: a9.aA :: a9.aA :: a9.aA :: a9.aA :: a9.aA :: a9.aA :: a9.aA :: a9.aA :: a9.aA :: a9.aA :: v :: .int .i64 (L.length : Nat) :: .int .i64 (i : Nat) :: x29 :: a9.aA :: a9.aA :: x32 :: a9.aA :: a9.aA :: a9.aA :: a9.aA :: a9.aA :: a9.aA :: a9.aA :: a9.aA :: a9.aA :: a9.aA :: x43 :: a9.aA :: a9.aA :: a9.aA :: a9.aA :: a9.aA :: a9.aA :: a9.aA :: a9.aA :: a9.aA :: a9.aA :: a9.aA :: a9.aA :: a9.aA :: a9.aA :: a9.aA :: a9.aA :: a9.aA :: a9.aA :: a9.aA :: a9.aA :: a9.aA :: a9.aA :: a9.aA :: a9.aA :: a9.aA :: a9.aA :: a9.aA :: a9.aA :: a9.aA :: a9.aA :: a9.aA :: []) h n := by
  intro m
  induction m with
  | zero =>
    intro i h n x4 x7 x8 x11 x29 x32 x43 hm hk hy hn hf
    have : i = L.length := by omega
    subst this
    rw [List.take_length, List.drop_length, List.append_nil] at hy
    rw [cF]
    have hcc : ¬ (((L.length : Nat) : Int) < ((L.length : Nat) : Int)) := by omega
    simp only [DK, bS, Try.f22, Option.getD_some, aC, fgr, execOp, opd, aD, put, nth, aB, bor, aJ, aK, intOp, Int.reduceNeg, List.getD_cons_zero, hcc, gL, gB]
    exact hT h n _ _ _ _ _ _ _ hk hy hn hf
  | succ m ih =>
    intro i h n x4 x7 x8 x11 x29 x32 x43 hm hk hy hn hf
    have hv' := hv.aX (h' := h) fun j a b => hk j (hV j a b)
    have hil : i < L.length := by omega
    have hcc : (((i : Nat) : Int) < ((L.length : Nat) : Int)) := by omega
    have w1 : IntKind.i64.wrap (((i : Nat) : Int) + 1) = ((i + 1 : Nat) : Int) := by rw [w64 (by omega) (by omega)]; omega
    obtain ⟨sw, va⟩ := hv'.at_ hil
    have hcs := LH hil z
    have hln : (iR z (L.take i) ++ L.drop i).length ≤ 900000 := by
      have h1 : (iR z (L.take i)).length ≤ (L.take i).length := List.length_filterMap_le _ _
      rw [List.length_append, List.length_drop]
      rw [List.length_take] at h1
      omega
    rw [← List.getElem_cons_drop hil] at hy hln
    generalize L[i] = w at *
    have ry := hy.rL
    have wy : w ∈ iR z (L.take i) ++ w :: L.drop (i + 1) := List.mem_append_right _ (List.mem_cons_self ..)
    rw [cF]
    simp only [DK, bS, Try.f22, Option.getD_some, aC, fgr, execOp, opd, aD, put, nth, aB, bor, aJ, aK, intOp, Int.reduceNeg, List.getD_cons_zero, hcc, gL, gB]
    rw [aM (hv'.idx hil)]
    simp only [aC, execOp, opd, aD, put, nth]
    rw [aM (va.all n)]
    simp only [aC, execOp, aD, put]
    rw [cD dY rfl]
    simp only [aC, execOp, opd, aD, put, nth, cel]
    have kd := va.s.kind
    refine dQ (v := .agg (aO w sw)) dY rfl (bM va.ok.h va.ok.b) (cL kd.2.1) hf fun H1 r1 p1 f1 => ?_
    replace r1 : Row H1 n (aO w sw) := r1
    have O1 : Old h H1 n := fun j hj => p1 j (by omega)
    have k1 : ∀ j, K j → H1 j = h0 j := fun j q => by rw [p1 j (by have := hKn j q; omega)]; exact hk j q
    have y1 := hy.old (n' := n + 1) (by omega) O1
    simp only [aC, tyr, fgr, execOp, opd, aD, put, nth, aB, und, sizeOf, aZ, aS, fieldAddr, gL, gI]
    rw [aM (eS r1 va.ok)]
    by_cases c1 : z < w.made
    · have ec : mE z w = none := by unfold mE; rw [if_pos c1]
      rw [ec] at hcs
      simp only [Option.toList_none, List.append_nil] at hcs
      simp only [aC, tyr, fgr, execOp, opd, aD, put, nth, aB, und, sizeOf, bor, aJ, aK, intOp, aZ, aS, fieldAddr, gt_iff_lt, c1, gL, gB, gI]
      rw [aM (gX r1 va.ok)]
      simp only [aC, tyr, execOp, opd, aD, put, nth, und, sizeOf, aZ, aS, fieldAddr, gL, gI]
      rw [aM (eS r1 va.ok)]
      simp only [aC, hkr, execOp, opd, bG, aD, put, nth, aL, aE, gL]
      refine bF f1 (f34w w.hash w.pn w.made va.ok.h y1 hln f1) fun v6 h6 n6 hn6 f6 ⟨k6, hh⟩ => ?_
      rcases hh with ⟨hno, _⟩ | ⟨w2, hw2, hk2, e6, y6⟩
      · exact absurd (A5 w) (hno w wy)
      · subst e6
        have hww : w2 = w := kC ry hw2 wy hk2
        subst hww
        rw [LC ry, ← hcs] at y6
        simp only [aC, fgr, execOp, opd, ofValue, aD, put, nth, aB, bor, aJ, aK, intOp, bU, w1, gB]
        exact ih (i + 1) h6 n6 _ _ _ _ _ _ _ (by omega) (fun j q => by rw [k6 j q]; exact k1 j q) y6 (by omega) f6
    · simp only [aC, tyr, fgr, execOp, opd, aD, put, nth, aB, und, sizeOf, bor, aJ, aK, intOp, aZ, aS, fieldAddr, gt_iff_lt, c1, gL, gB, gI]
      rw [aM (dD r1 va.ok)]
      by_cases c2 : z < w.bZ
      · simp only [aC, tyr, execOp, opd, aD, put, nth, und, sizeOf, bor, aJ, aK, intOp, aZ, aS, fieldAddr, gt_iff_lt, c2, gL, gB, gI]
        rw [aM (dD r1 va.ok)]
        by_cases c3 : 0 < w.bZ
        · have ec : mE z w = some (gQ w 0 z32) := by unfold mE; rw [if_neg c1, if_pos ⟨c2, c3⟩]
          rw [ec] at hcs
          simp only [aC, tyr, fgr, execOp, opd, ofValue, aD, put, nth, aB, und, sizeOf, bor, aJ, aK, intOp, bC, branch, aZ, aS, fieldAddr, gt_iff_lt, c3, gL, gB, gI]
          rw [aM (gX r1 va.ok)]
          simp only [aC, tyr, execOp, opd, aD, put, nth, und, sizeOf, aZ, aS, fieldAddr, gL, gI]
          rw [aM (eS r1 va.ok)]
          simp only [aC, hkr, execOp, opd, bG, aD, put, nth, aL, aE, gL]
          refine bF f1 (f38w w.hash w.pn w.made va.ok.h y1 hln f1) fun v6 h6 n6 hn6 f6 ⟨k6, hh⟩ => ?_
          rcases hh with ⟨hno, _⟩ | ⟨w2, hw2, hk2, h2, e6, y6⟩
          · have := hno w wy (A5 w)
            omega
          · subst e6
            have hww : w2 = w := kC ry hw2 wy hk2
            subst hww
            rw [zM ry] at y6
            have e7 : iR z (L.take i) ++ gQ w2 0 z32 :: L.drop (i + 1) = iR z (L.take (i + 1)) ++ L.drop (i + 1) := by rw [hcs]; simp
            rw [e7] at y6
            simp only [aC, fgr, execOp, opd, ofValue, aD, put, nth, aB, bor, aJ, aK, intOp, bU, w1, gB]
            exact ih (i + 1) h6 n6 _ _ _ _ _ _ _ (by omega) (fun j q => by rw [k6 j q]; exact k1 j q) y6 (by omega) f6
        · have ec : mE z w = some w := by unfold mE; rw [if_neg c1, if_neg (fun q => c3 q.2)]
          rw [ec] at hcs
          have e7 : iR z (L.take i) ++ w :: L.drop (i + 1) = iR z (L.take (i + 1)) ++ L.drop (i + 1) := by rw [hcs]; simp
          rw [e7] at y1
          simp only [aC, fgr, execOp, opd, ofValue, aD, put, nth, aB, bor, aJ, aK, intOp, bU, bC, branch, gt_iff_lt, c3, w1, gL, gB]
          exact ih (i + 1) H1 (n + 1) _ _ _ _ _ _ _ (by omega) k1 y1 (by omega) f1
      · have ec : mE z w = some w := by unfold mE; rw [if_neg c1, if_neg (fun q => c2 q.1)]
        rw [ec] at hcs
        have e7 : iR z (L.take i) ++ w :: L.drop (i + 1) = iR z (L.take (i + 1)) ++ L.drop (i + 1) := by rw [hcs]; simp
        rw [e7] at y1
        simp only [aC, fgr, execOp, opd, ofValue, aD, put, nth, aB, bor, aJ, aK, intOp, bU, bC, branch, gt_iff_lt, c2, w1, gL, gB]
        exact ih (i + 1) H1 (n + 1) _ _ _ _ _ _ _ (by omega) k1 y1 (by omega) f1
theorem f22 {W : Nat → Prop} {h : Hp} {n s : Nat} {L : List Ver} {I : List Inf} (q : St W h n s L I) (z : Int) (hI : I.length ≤ 900000) (hL : L.length ≤ 900000) (hf : bO h n) :
    Wp (bD env (evalW env) 22 [.ptr s 0, .int .i64 z]) h n fun v' h' n' => (∀ j, j < n → j ≠ s → h' j = h j) ∧
      (((z < -1 ∨ ((I.length : Nat) : Int) - 1 < z) ∧ v' = .int .i64 221 ∧ St W h' n' s L I) ∨ (-1 ≤ z ∧ z ≤ ((I.length : Nat) : Int) - 1 ∧ v' = .int .i64 0 ∧ St W h' n' s (iR z L) (I.take (z + 1).toNat))) := by
  have sn := q.sn
  have qq := q
  obtain ⟨x, lv, rs, ix, il, sa, sb, sc⟩ := qq
  refine bL ff22 fi22 ?_
  simp only [VH, Try.f22, Option.getD_some, List.replicate, aC, fgr, hkr, execOp, opd, bG, ofValue, aD, put, nth, aB, aL, aE, ended, aT, aU, Nat.reduceAdd, Nat.reduceSub, Int.reduceNeg, gL, gI]
  refine eL (f66 s x lv h n rs) ?_
  simp only [aC, fgr, execOp, opd, ofValue, aD, put, nth, aB, bor, aJ, aK, intOp, Int.reduceNeg, gL, gB]
  by_cases c1 : z < -1
  · simp only [aC, fgr, execOp, opd, ofValue, aD, put, nth, aB, bC, branch, Int.reduceNeg, c1, gL, gB]
    exact ⟨fun j _ _ => trivial, .inl ⟨.inl trivial, q⟩⟩
  simp only [aC, hkr, execOp, opd, bG, aD, put, nth, aL, aE, Int.reduceNeg, c1, gL, gB]
  rw [aM (NF s x lv I h n rs il (by omega))]
  by_cases c2 : ((I.length : Nat) : Int) - 1 < z
  · simp only [aC, fgr, execOp, opd, ofValue, aD, put, nth, aB, bor, aJ, aK, intOp, bC, branch, Int.reduceNeg, gt_iff_lt, c2, gL, gB]
    exact ⟨fun j _ _ => trivial, .inl ⟨.inr trivial, q⟩⟩
  simp only [aC, tyr, fgr, execOp, opd, ofValue, aD, put, nth, aB, und, sizeOf, bor, aJ, aK, intOp, bC, branch, nilCheck, aZ, aS, fieldAddr, Int.reduceNeg, gt_iff_lt, c2, gL, gB, gI]
  rw [aM (rs.one (off := 0) rfl qA rfl)]
  simp only [aC, hkr, execOp, opd, bG, aD, put, nth, aL, aE, Int.reduceNeg, gL]
  have ixx := ix
  obtain ⟨⟨D0, M0, ixi, ixk, ixt⟩, ixg⟩ := ixx
  refine bF hf (f41 x L D0 M0 h n ixi (by omega) hf) fun v3 h3 n3 hn3 f3 ⟨y, M', e3, i3, hM, o3⟩ => ?_
  subst e3
  have y3 : Ixw (fun j => j < n) W h3 n3 y L := ⟨⟨D0, M', i3, fun j hj => ⟨by omega, fun w => by have := hM j w; omega⟩, fun j hj => ⟨by have := (ixt j hj).1; omega, (ixt j hj).2⟩⟩, ixg⟩
  simp only [aC, fgr, hkr, execOp, opd, bG, aD, put, nth, aB, aL, aE, Int.reduceNeg, gL]
  refine bF f3 (ab7 y3.k hL f3) fun v4 h4 n4 hn4 f4 ⟨l4, o4⟩ => ?_
  have y4 := y3.grow hn4 o4
  simp only [aC, fgr, execOp, opd, bG, ofValue, aD, put, nth, aB, aL, builtin, dH, Int.reduceNeg, l4.len]
  refine TU _ _ (fun j => j < n ∨ (n3 ≤ j ∧ j < n4)) W v4 s y n3 n4 z L h4 (fun j w => by omega) (fun j a b => .inr ⟨a, b⟩) hL l4 ?_ L.length 0 h4 n4 _ _ _ _ _ _ _ (by omega) (fun j _ => rfl) (by simpa [iR] using y4) (Nat.le_refl _) f4
  intro h5 n5 x4 x7 x8 x11 x29 x32 x43 k5 y5 hn5 f5
  have K5 : ∀ j, j < n → h5 j = h j := fun j hj => by rw [k5 j (.inl hj), o4 j (by omega), o3 j hj]
  have rs5 : Row h5 s [.ptr x 0, lv] := rs.aX (K5 s sn)
  have il5 : IL h5 lv I := il.aX fun j w => K5 j (sa j w).1
  have w1 : IntKind.i64.wrap (z + 1) = ((z + 1).toNat : Int) := by rw [w64 (by omega) (by omega)]; omega
  have hk : (z + 1).toNat ≤ I.length := by omega
  simp only [aC, tyr, execOp, opd, aD, put, nth, und, sizeOf, nilCheck, aZ, aS, fieldAddr, Int.reduceNeg, gL, gI]
  rw [aM (rs5.one (off := 1) rfl sX rfl)]
  simp only [aC, execOp, opd, opt, ofValue, aD, put, nth, bor, aJ, aK, intOp, bU, Int.reduceNeg, w1, gB]
  have il5' := il5
  obtain ⟨cells, cc1, cc2⟩ := il5'
  rw [aM (cc1.rds.OM cc1.roomy u57 Q8 rfl hk)]
  simp only [aC, hkr, execOp, opd, bG, aD, put, nth, aL, aE, Int.reduceNeg, gL]
  refine bF f5 (f71 (kA 0 (z + 1).toNat lv) (I.take (z + 1).toNat) h5 n5 (il5.pre hk) (by rw [List.length_take]; omega) f5) fun v6 h6 n6 hn6 f6 ⟨l6, i6, o6⟩ => ?_
  obtain ⟨et, hs6⟩ := rs5.aX (o6 s (by omega))
  simp only [aC, tyr, execOp, opd, aD, put, nth, und, sizeOf, nilCheck, aZ, aS, fieldAddr, Int.reduceNeg, gL, gI]
  rw [dR (Row.write (off := 0) (v := .ptr y 0) hs6 qA rfl (by show 0 + 1 ≤ 2; omega) rfl)]
  obtain ⟨h7, hh7⟩ : ∃ h7, h7 = upd h6 s (some (.row (.l [.ptr y 0, lv]) et)) := ⟨_, rfl⟩
  show Ops _ _ _ _ _ _ _ _ (upd h6 s (some (.row (.l [.ptr y 0, lv]) et))) _
  rw [← hh7]
  have s7 : h7 s = some (.row (.l [.ptr y 0, lv]) et) := by rw [hh7, aW]
  have o7 : ∀ j, j ≠ s → h7 j = h6 j := fun j hj => by rw [hh7, aP _ _ hj]
  clear hh7
  have k6 := l6.kind
  simp only [aC, tyr, execOp, opd, aD, put, nth, und, sizeOf, nilCheck, aZ, aS, fieldAddr, Int.reduceNeg, gL, gI]
  rw [dR (Row.write (off := 1) (v := v6) s7 sX (by rw [k6.1]; rfl) (by show 1 + 1 ≤ 2; omega) (by rw [k6.1]; simp [k6.2.1]))]
  rw [k6.1, show cB [a9.ptr y 0, lv] 1 [v6] = [a9.ptr y 0, v6] from rfl]
  obtain ⟨hZ, hhZ⟩ : ∃ hZ, hZ = upd h7 s (some (.row (.l [.ptr y 0, v6]) et)) := ⟨_, rfl⟩
  rw [← hhZ]
  have sZ : Row hZ s [.ptr y 0, v6] := ⟨et, by rw [hhZ, aW]⟩
  have oZ : ∀ j, j ≠ s → hZ j = h6 j := fun j h2 => by rw [hhZ, aP _ _ h2, o7 j h2]
  clear hhZ
  simp only [aC, fgr, execOp, opd, ofValue, aD, put, nth, aB, Int.reduceNeg, gB]
  obtain ⟨⟨D', M1, iy, kk6, tt6⟩, gg6⟩ := y5
  refine ⟨fun j h1 h2 => by rw [oZ j h2, o6 j (by omega), K5 j h1], .inr ⟨by omega, by omega, y, _, sZ, ⟨⟨D', M1, iy.beside (by omega) fun j h1 h2 => ?_, fun j w => ?_, fun j w => ?_⟩, gg6⟩, l6.aX fun j w => oZ j ?_, fun j w => ?_, sb, fun j w => ?_⟩⟩
  · rw [oZ j, o6 j h1]
    intro e
    subst e
    rcases h2 with h2 | h2
    · exact (tt6 j sb).2 h2
    · exact (kk6 j (.inl (by omega))).2 h2
  · have := sc j w
    exact ⟨by omega, (kk6 j (.inl this)).2⟩
  · have := sc j w
    exact ⟨by omega, (tt6 j w).2⟩
  · have := i6 j w
    omega
  · have := i6 j w
    refine ⟨by omega, fun ww => ?_⟩
    have := sc j ww
    omega
  · have := sc j w
    omega
theorem Ix.lt {h : Hp} {n x : Nat} {D M : Nat → Prop} {L : List Ver} (i : Ix h n D M x L) : ∀ j, (D j ∨ M j) → j < n := fun j w => by
  obtain ⟨⟨S, ⟨vl, vs, xl, xs, iv, mx, ml, ms, mn⟩, _⟩, _⟩ := i
  rcases w with w | w
  · exact iv.dn j w
  · exact (mn j w).1
def asV (z : Int) (v : Ver) : Ver := if z < v.bZ then gQ v 0 z32 else v
theorem f62 (v : Ver) (sv : a9) (z : Int) (ov : v.Ok) (hs : sv.cells = [sv] ∧ bN sv = true ∧ eD sv = false) (h : Hp) (n : Nat) (hf : bO h n) :
    Wp (bD env (evalW env) 62 [.agg (aO v sv), .int .i64 z]) h n fun v' h' n' => v' = .agg (aO (asV z v) sv) ∧ Old h h' n := by
  refine bL ff62 fi62 ?_
  simp only [UX, Try.f62, Option.getD_some, List.replicate, aC, execOp, opd, nth, ended, aT, aU, Nat.reduceAdd, Nat.reduceSub, gL, gI]
  refine dA (v := .agg (aO v sv)) dY rfl hf fun H1 r1 o1 f1 => ?_
  replace r1 : Row H1 n (aO v sv) := r1
  simp only [aC, execOp, aD, put]
  rw [cD dY rfl]
  obtain ⟨H2, hH2⟩ : ∃ H2, H2 = upd H1 (n + 1) (some (.row (.l (aO noV .aV)) 31)) := ⟨_, rfl⟩
  have g2 : H2 (n + 1) = some (.row (.l (aO noV .aV)) 31) := by rw [hH2, aW]
  have o2 : ∀ j, j ≠ n + 1 → H2 j = H1 j := fun j hj => by rw [hH2, aP _ _ hj]
  show Ops _ _ _ _ _ _ _ _ (upd H1 (n + 1) (some (.row (.l (aO noV .aV)) 31))) _
  rw [← hH2]
  clear hH2
  obtain ⟨et, g1⟩ := r1.aX (o2 n (by omega))
  have old2 : Old h H2 n := fun j hj => by rw [o2 j (by omega), o1 j (by omega)]
  simp only [aC, tyr, fgr, execOp, opd, aD, put, nth, aB, und, sizeOf, aZ, aS, fieldAddr, gL, gI]
  rw [aM (dD ⟨et, g1⟩ ov)]
  have fin : ∀ (u : Ver) (H : Hp), u.Ok → H n = some (.row (.l (aO u sv)) et) → H (n + 1) = some (.row (.l (aO noV .aV)) 31) → Old h H n → asV z v = u → Wp (load env 31 (.ptr n 0)) H (n + 1 + 1) fun w h' n' => w = .agg (aO u sv) ∧ h' = H ∧ n' = n + 1 + 1 := fun u H ou q1 q2 q3 q4 => (eN ⟨et, q1⟩ ou).wp
  by_cases c : z < v.bZ
  · have ea : asV z v = gQ v 0 z32 := by unfold asV; rw [if_pos c]
    rw [ea]
    simp only [aC, tyr, fgr, execOp, opd, ofValue, dE, aD, put, nth, aB, und, sizeOf, bor, aJ, aK, intOp, aZ, aS, fieldAddr, gt_iff_lt, c, b25, gL, gB, gI]
    have hsp : cB (aO v sv) 37 [a9.int .i64 0] = aO { v with bZ := 0 } sv := mB ov.h 0
    rw [dR (Row.write (off := 37) (v := .int .i64 0) g1 ti3 rfl (by rw [bM ov.h ov.b]; show 37 + 1 ≤ 70; omega) rfl)]
    rw [show cB (aO v sv) 37 (a9.int .i64 0).cells = aO { v with bZ := 0 } sv from hsp]
    obtain ⟨H3, hH3⟩ : ∃ H3, H3 = upd H2 n (some (.row (.l (aO { v with bZ := 0 } sv)) et)) := ⟨_, rfl⟩
    rw [← hH3]
    have g3 : H3 n = some (.row (.l (aO { v with bZ := 0 } sv)) et) := by rw [hH3, aW]
    have o3 : ∀ j, j ≠ n → H3 j = H2 j := fun j hj => by rw [hH3, aP _ _ hj]
    clear hH3
    have ov3 : Ver.Ok { v with bZ := 0 } := ⟨ov.h, ov.b⟩
    have w2 : cB (aO { v with bZ := 0 } sv) 38 (a9.agg (z32.map u8)).cells = aO (gQ v 0 z32) sv := qL (w := { v with bZ := 0 }) ov.h ov.b z32 rfl
    simp only [aC, tyr, execOp, opd, aD, put, nth, und, sizeOf, aZ, aS, fieldAddr, gL, gI]
    rw [dR (Row.write (off := 38) (v := .agg (z32.map u8)) g3 mM (by show (z32.map u8).length = 32; rfl) (by rw [bM ov3.h ov3.b]; show 38 + 32 ≤ 70; omega) (by decide))]
    rw [w2]
    obtain ⟨H4, hH4⟩ : ∃ H4, H4 = upd H3 n (some (.row (.l (aO (gQ v 0 z32) sv)) et)) := ⟨_, rfl⟩
    rw [← hH4]
    have g4 : H4 n = some (.row (.l (aO (gQ v 0 z32) sv)) et) := by rw [hH4, aW]
    have o4 : ∀ j, j ≠ n → H4 j = H3 j := fun j hj => by rw [hH4, aP _ _ hj]
    clear hH4
    have ov4 : (gQ v 0 z32).Ok := ⟨ov.h, rfl⟩
    simp only [aC, fgr, execOp, opd, aD, nth, aB]
    rw [aM (eN ⟨et, g4⟩ ov4)]
    simp only [aC, execOp, opd, aD, put, nth]
    rw [dR (Row.write (off := 0) (v := .agg (aO (gQ v 0 z32) sv)) (show H4 (n + 1) = some (.row (.l (aO noV .aV)) 31) by rw [o4 _ (by omega), o3 _ (by omega)]; exact g2) dY (bM ov4.h ov4.b) (by show 0 + 70 ≤ 70; omega) (cL hs.2.1))]
    rw [dZ (by show (aO _ _).length = _; rw [bM ov4.h ov4.b]; rfl)]
    simp only [aC, fgr, aD, nth, aB, cel, true_and]
    refine eQ (Row.whole (cs := aO (gQ v 0 z32) sv) ⟨31, aW _ _ _⟩ dY rfl (bM ov4.h ov4.b)) (wp_pure.2 ?_)
    exact ⟨rfl, fun j hj => by rw [aP _ _ (by omega), o4 j (by omega), o3 j (by omega), old2 j hj]⟩
  · have ea : asV z v = v := by unfold asV; rw [if_neg c]
    rw [ea]
    simp only [aC, fgr, execOp, opd, aD, put, nth, aB, bor, aJ, aK, intOp, gt_iff_lt, c, gB]
    rw [aM (eN ⟨et, g1⟩ ov)]
    simp only [aC, execOp, opd, aD, put, nth]
    rw [dR (Row.write (off := 0) (v := .agg (aO v sv)) g2 dY (bM ov.h ov.b) (by show 0 + 70 ≤ 70; omega) (cL hs.2.1))]
    rw [dZ (by show (aO _ _).length = _; rw [bM ov.h ov.b]; rfl)]
    simp only [aC, fgr, aD, nth, aB, cel, true_and]
    refine eQ (Row.whole (cs := aO v sv) ⟨31, aW _ _ _⟩ dY rfl (bM ov.h ov.b)) (wp_pure.2 ?_)
    exact ⟨rfl, fun j hj => by rw [aP _ _ (by omega), old2 j hj]⟩
def nY (L : List Ver) (I : List Inf) (hash : List UInt8) (pn z : Int) : Option Ver := match kG I z with
  | some _ => atV L hash pn z
  | none => none
theorem b31n : build env 31 [] = M.pure (.agg (aO noV .aV)) := rfl
theorem MR {v : Ver} (o : v.Ok) (z : Int) : (asV z v).Ok := by
  unfold asV
  split
  · exact ⟨o.h, rfl⟩
  · exact o
theorem xB (v : Ver) (z : Int) : (asV z v).aR = v.aR := by
  unfold asV
  split <;> rfl
theorem f15 {W : Nat → Prop} {h : Hp} {n s : Nat} {L : List Ver} {I : List Inf} (q : St W h n s L I) (hash : List UInt8) (pn z : Int) (hl : hash.length = 32) (hI : I.length ≤ 900000) (hL : L.length ≤ 900000) (hf : bO h n) :
    Wp (bD env (evalW env) 15 [.ptr s 0, .agg (aY hash pn), .int .i64 z]) h n fun v' h' n' => Old h h' n ∧ ∃ s', v' = .tup [.agg (aO (((nY L I hash pn z).map (asV z)).getD noV) s'), .bool (nY L I hash pn z).isSome, .int .i64 (rW (kG I z))] ∧ (((nY L I hash pn z).map (asV z)).getD noV).Ok ∧ Bytes h' s' (((nY L I hash pn z).map (asV z)).getD noV).aR ∧ ∀ j, bB s' = some j → n ≤ j ∧ j < n' := by
  refine bL ff15 fi15 ?_
  simp only [VN, Try.f15, Option.getD_some, List.replicate, aC, execOp, opd, nth, ended, aT, aU, Nat.reduceAdd, Nat.reduceSub, gL, gI]
  refine dA (v := .agg (aY hash pn)) iK rfl hf fun H1 r1 o1 f1 => ?_
  replace r1 : Row H1 n (aY hash pn) := r1
  simp only [aC, execOp, aD, put]
  rw [cD dY rfl]
  obtain ⟨H2, hH2⟩ : ∃ H2, H2 = upd H1 (n + 1) (some (.row (.l (aO noV .aV)) 31)) := ⟨_, rfl⟩
  have g2 : H2 (n + 1) = some (.row (.l (aO noV .aV)) 31) := by rw [hH2, aW]
  have o2 : ∀ j, j ≠ n + 1 → H2 j = H1 j := fun j hj => by rw [hH2, aP _ _ hj]
  have f2 : bO H2 (n + 1 + 1) := by rw [hH2]; exact f1.new
  show Ops _ _ _ _ _ _ _ _ (upd H1 (n + 1) (some (.row (.l (aO noV .aV)) 31))) _
  rw [← hH2]
  clear hH2
  have old2 : Old h H2 n := fun j hj => by rw [o2 j (by omega), o1 j (by omega)]
  have q2 := q.old (n' := n + 1 + 1) (by omega) old2
  simp only [aC, fgr, hkr, execOp, opd, bG, ofValue, aD, put, nth, aB, aL, aE, gL]
  refine bF f2 (f25 q2 z (by omega) f2) fun v3 h3 n3 hn3 f3 ⟨e3, ob3, o3⟩ => ?_
  subst e3
  have q3 := q2.old hn3 o3
  simp only [aC, execOp, opd, aD, put, nth, extract, aZ, gL]
  rw [cD iI rfl]
  simp only [aC, execOp, opd, aD, put, nth, cel]
  refine dQ (v := .agg (bX ((kG I z).getD gP))) iI rfl (cE ob3) (fL _) f3 fun H4 r4 o4 f4 => ?_
  have O4 : Old h3 H4 n3 := fun j hj => o4 j (by omega)
  have q4 := q3.old (n' := n3 + 1) (by omega) O4
  have OO : ∀ j, j < n + 1 + 1 → H4 j = H2 j := fun j hj => by rw [O4 j (by omega), o3 j hj]
  have g4 : H4 (n + 1) = some (.row (.l (aO noV .aV)) 31) := (OO _ (by omega)).trans g2
  cases hi : kG I z with
  | none =>
    have hc : nY L I hash pn z = none := by unfold nY; rw [hi]
    rw [hc]
    simp only [aC, fgr, execOp, opd, ofValue, dE, aD, put, nth, aB, bor, aJ, aK, intOp, Int.reduceEq, rW, b31n, gB, gI]
    rw [dR (Row.write (v := .agg (aO noV .aV)) g4 dY rfl (by show 0 + 70 ≤ 70; omega) (by decide))]
    rw [dZ (by rfl)]
    simp only [aC, fgr, execOp, opd, ofValue, aD, put, nth, aB, cel, gB]
    refine eQ (Row.whole (cs := aO noV .aV) ⟨31, aW _ _ _⟩ dY rfl rfl) (wp_pure.2 ?_)
    exact ⟨fun j hj => by rw [aP _ _ (by omega), OO j (by omega), old2 j hj], .aV, rfl, JP, .aV, fun j w => by cases w⟩
  | some i =>
    have hc : nY L I hash pn z = atV L hash pn z := by unfold nY; rw [hi]
    rw [hc]
    obtain ⟨x, lv, rs, ix, il, sa, sb, sc⟩ := q4
    have r14 : Row H4 n (aY hash pn) := (r1.aX (o2 n (by omega))).aX (OO n (by omega))
    simp only [aC, fgr, execOp, opd, ofValue, aD, put, nth, aB, bor, aJ, aK, intOp, bne_self_eq_false, rW, gB]
    refine cG ⟨rfl, ?_⟩
    simp only [aF, aI, aC, tyr, execOp, opd, aD, put, nth, und, sizeOf, nilCheck, aZ, aS, fieldAddr, Nat.reduceAdd, gL, gI]
    rw [bP (rs.one (off := 0) rfl qA rfl)]
    simp only [aF, execOp, opd, aD, put, nth, Nat.reduceAdd]
    have hld : Rd (load env 28 (.ptr n 0)) H4 (n3 + 1) [n] (.agg (aY hash pn)) := Row.whole r14 iK rfl (cA hl)
    rw [bP hld]
    simp only [aF, aI, hkr, execOp, opd, bG, aD, put, nth, aL, aE, Nat.reduceAdd, gL]
    refine FK f4 (VU hash pn z hl ix.k hL f4) fun v5 h5 n5 rr5 ww5 hn5 f5 ⟨o5, sA, e5, okA, bA, iA⟩ qr5 qw5 => ?_
    subst e5
    have cr0 : ∀ id, id ∈ [s] → id < n5 ∨ n5 + 1 ≤ id := fun id w => by rw [List.mem_singleton] at w; have := sc s sb; omega
    have cr1 : ∀ id, id ∈ [n] → id < n5 ∨ n5 + 1 ≤ id := fun id w => by rw [List.mem_singleton] at w; omega
    have cr2 : ∀ id, id ∈ ([] : List Nat) → id < n5 ∨ n5 + 1 ≤ id := fun id w => by cases w
    have cr3 : ∀ id, id ∈ rr5 → id < n5 ∨ n5 + 1 ≤ id := fun id w => .inl (by have := qr5 id w; omega)
    have cw3 : ∀ id, id ∈ ww5 → id < n5 ∨ n5 + 1 ≤ id := fun id w => .inl (by have := qw5 id w; omega)
    obtain ⟨u, hu⟩ : ∃ u, u = (atV L hash pn z).getD noV := ⟨_, rfl⟩
    rw [← hu] at okA bA
    rw [← hu]
    simp only [aF, aI, execOp, opd, aD, put, nth, extract, aZ, Nat.reduceAdd, gL]
    refine yQ dY rfl f5 fun H6 g6 o6 f6 => ?_
    simp only [aF, execOp, opd, aD, put, nth, Nat.reduceAdd]
    refine jH (Row.write (v := .agg (aO u sA)) (show H6 n5 = some (.row (.l (aO noV .aV)) 31) from g6) dY (bM okA.h okA.b) (by show 0 + 70 ≤ 70; omega) (cL bA.kind.2.1)) ?_
    rw [dZ (by show (aO _ _).length = _; rw [bM okA.h okA.b]; rfl)]
    obtain ⟨H7, hH7⟩ : ∃ H7, H7 = upd H6 n5 (some (.row (.l (aO u sA)) 31)) := ⟨_, rfl⟩
    show Fe _ _ _ _ _ _ _ _ _ _ (upd H6 n5 (some (.row (.l (aO u sA)) 31))) _
    rw [← hH7]
    have r7 : Row H7 n5 (aO u sA) := ⟨31, by rw [hH7, aW]⟩
    have o7 : ∀ j, j ≠ n5 → H7 j = h5 j := fun j hj => by rw [hH7, aP _ _ hj, o6 j hj]
    have f7 : bO H7 (n5 + 1) := by rw [hH7]; exact f6.upd (by omega)
    clear hH7
    simp only [bY, aF, aI, aC, fgr, execOp, opd, aD, put, nth, aB, Nat.reduceAdd]
    refine ⟨(by (try simp (disch := first | assumption | omega) only [dF, List.all_cons, List.all_nil, gB, gF]); repeat' (first | rfl | exact (Bool.or_eq_true _ _).mpr (.inr rfl) | refine (Bool.and_eq_true _ _).mpr ⟨?_, ?_⟩)), ?_⟩
    rw [aM (eN r7 okA)]
    simp only [aC, hkr, execOp, opd, bG, aD, put, nth, aL, aE, gL]
    refine bF f7 (f62 u sA z okA bA.kind H7 (n5 + 1) f7) fun v8 h8 n8 hn8 f8 ⟨e8, o8⟩ => ?_
    subst e8
    have okB := MR okA z
    have g8 : h8 (n + 1) = some (.row (.l (aO noV .aV)) 31) := by rw [o8 _ (by omega), o7 _ (by omega), o5 _ (by omega)]; exact g4
    simp only [aC, execOp, opd, aD, put, nth]
    rw [dR (Row.write (v := .agg (aO (asV z u) sA)) g8 dY (bM okB.h okB.b) (by show 0 + 70 ≤ 70; omega) (cL bA.kind.2.1))]
    rw [dZ (by show (aO _ _).length = _; rw [bM okB.h okB.b]; rfl)]
    simp only [aC, fgr, execOp, opd, ofValue, aD, put, nth, aB, cel, gB]
    refine eQ (Row.whole (cs := aO (asV z u) sA) ⟨31, aW _ _ _⟩ dY rfl (bM okB.h okB.b)) (wp_pure.2 ?_)
    have eu : (((atV L hash pn z).map (asV z)).getD noV) = asV z u := by
      rw [hu]
      cases atV L hash pn z with
      | none =>
        show noV = asV z noV
        unfold asV
        split <;> rfl
      | some w => rfl
    rw [eu]
    refine ⟨fun j hj => by rw [aP _ _ (by omega), o8 j (by omega), o7 j (by omega), o5 j (by omega), OO j (by omega), old2 j hj], sA, rfl, okB, ?_, fun j w => ?_⟩
    · rw [xB]
      exact bA.aX fun j w => by
        have := iA j w
        rw [aP _ _ (by omega), o8 j (by omega), o7 j (by omega)]
    · have := iA j w
      omega
def zL (l : List Ver) : Int := l.foldl (fun n v => tG (n + v.value)) 0
theorem RA {l : List Ver} {i : Nat} (h : i < l.length) : zL (l.take (i + 1)) = tG (zL (l.take i) + l[i].value) := by
  unfold zL
  rw [jO h, List.foldl_append]; rfl
def EB (L : List Ver) (I : List Inf) (aR : List UInt8) (z : Int) : Int := match kG I z with
  | some _ => zL (ofV L aR z)
  | none => 0
theorem TQ (Q : eJ) (ks : List Kf) (v : a9) (a b : Nat) (l : List Ver) (h0 : Hp) (hl : l.length ≤ 900000) (hv : VL h0 a b v l)
    (hT : ∀ (h : Hp) (n : Nat) (x0 x1 x2 x9 x12 x20 x31 : a9), Old h0 h b → b ≤ n → bO h n → dV env 60 none Q ks (.exit 0) (x0 :: x1 :: x2 :: a9.aA :: a9.aA :: a9.aA :: .int .i64 0 :: .int .i64 0 :: a9.aA :: x9 :: .int .i64 (zL l) :: a9.aA :: x12 :: a9.aA :: a9.aA :: a9.aA :: a9.aA :: a9.aA :: a9.aA :: a9.aA :: x20 :: a9.aA :: a9.aA :: a9.aA :: a9.aA :: a9.aA :: a9.aA :: a9.aA :: v :: .int .i64 (l.length : Nat) :: .int .i64 (l.length : Nat) :: x31 :: a9.aA :: a9.aA :: a9.aA :: a9.aA :: a9.aA :: a9.aA :: a9.aA :: a9.aA :: []) h n) :
    ∀ (m i : Nat) (h : Hp) (n : Nat) (x0 x1 x2 x9 x12 x20 x31 : a9), i + m = l.length → Old h0 h b → b ≤ n → bO h n →
      Run env 60 none Q (.loop DF) ks (x0 :: x1 :: x2 :: a9.aA :: a9.aA :: a9.aA :: .int .i64 0 :: .int .i64 0 :: a9.aA :: x9 :: .int .i64 (zL (l.take i)) :: a9.aA :: x12 :: a9.aA :: a9.aA :: a9.aA :: a9.aA :: a9.aA :: a9.aA :: a9.aA :: x20 :: a9.aA :: a9.aA :: a9.aA :: a9.aA :: a9.aA :: a9.aA :: a9.aA :: v :: .int .i64 (l.length : Nat) :: .int .i64 (i : Nat) :: x31 :: a9.aA :: a9.aA :: a9.aA :: a9.aA :: a9.aA :: a9.aA :: a9.aA :: a9.aA :: []) h n := by
  intro m
  induction m with
  | zero =>
    intro i h n x0 x1 x2 x9 x12 x20 x31 hm ho hn hf
    have : i = l.length := by omega
    subst this
    rw [List.take_length]
    rw [cF]
    have hcc : ¬ (((l.length : Nat) : Int) < ((l.length : Nat) : Int)) := by omega
    simp only [DF, bS, Try.f60, Option.getD_some, aC, fgr, execOp, opd, aD, put, nth, aB, bor, aJ, aK, intOp, List.getD_cons_zero, hcc, gL, gB]
    exact hT h n _ _ _ _ _ _ _ ho hn hf
  | succ m ih =>
    intro i h n x0 x1 x2 x9 x12 x20 x31 hm ho hn hf
    have hv' := hv.old (Nat.le_refl _) ho
    have hil : i < l.length := by omega
    have hcc : (((i : Nat) : Int) < ((l.length : Nat) : Int)) := by omega
    have w1 : IntKind.i64.wrap (((i : Nat) : Int) + 1) = ((i + 1 : Nat) : Int) := by rw [w64 (by omega) (by omega)]; omega
    obtain ⟨sw, va⟩ := hv'.at_ hil
    have hs := RA hil
    generalize l[i] = w at *
    rw [cF]
    simp only [DF, bS, Try.f60, Option.getD_some, aC, fgr, execOp, opd, aD, put, nth, aB, bor, aJ, aK, intOp, List.getD_cons_zero, hcc, gL, gB]
    rw [aM (hv'.idx hil)]
    simp only [aC, execOp, opd, aD, put, nth]
    rw [aM (va.all n)]
    simp only [aC, execOp, aD, put]
    rw [cD dY rfl]
    simp only [aC, execOp, opd, aD, put, nth, cel]
    have kd := va.s.kind
    refine dQ (v := .agg (aO w sw)) dY rfl (bM va.ok.h va.ok.b) (cL kd.2.1) hf fun H1 r1 p1 f1 => ?_
    replace r1 : Row H1 n (aO w sw) := r1
    simp only [aC, tyr, fgr, execOp, opd, aD, put, nth, aB, und, sizeOf, aZ, aS, fieldAddr, gL, gI]
    rw [aM (kX r1 va.ok)]
    have hs' : IntKind.i64.wrap (zL (l.take i) + w.value) = zL (l.take (i + 1)) := hs.symm
    simp only [aC, fgr, execOp, opd, ofValue, aD, put, nth, aB, bor, aJ, aK, intOp, bU, w1, hs', gB]
    exact ih (i + 1) H1 (n + 1) _ _ _ _ _ _ _ (by omega) (fun j hj => by rw [p1 j (by omega), ho j hj]) (by omega) f1
theorem f60 {W : Nat → Prop} {h : Hp} {n s : Nat} {L : List Ver} {I : List Inf} (q : St W h n s L I) (sv : a9) (aR : List UInt8) (z : Int) (hb : Bytes h sv aR) (hsn : ∀ j, bB sv = some j → j < n) (hI : I.length ≤ 900000) (hL : L.length ≤ 900000) (hf : bO h n) :
    Wp (bD env (evalW env) 60 [.ptr s 0, sv, .int .i64 z]) h n fun v' h' n' => v' = .tup [.int .i64 (EB L I aR z), .int .i64 (rW (kG I z))] ∧ Old h h' n := by
  refine bL ff60 fi60 ?_
  simp only [UY, Try.f60, Option.getD_some, List.replicate, aC, fgr, hkr, execOp, opd, bG, ofValue, aD, put, nth, aB, aL, aE, ended, aT, aU, Nat.reduceAdd, Nat.reduceSub, gL, gI]
  refine bF hf (f25 q z (by omega) hf) fun v3 h3 n3 hn3 f3 ⟨e3, ob3, o3⟩ => ?_
  subst e3
  simp only [aC, execOp, opd, aD, put, nth, extract, aZ, gL]
  rw [cD iI rfl]
  simp only [aC, execOp, opd, aD, put, nth, cel]
  refine dQ (v := .agg (bX ((kG I z).getD gP))) iI rfl (cE ob3) (fL _) f3 fun H4 r4 o4 f4 => ?_
  have O4 : Old h H4 n := fun j hj => by rw [o4 j (by omega), o3 j hj]
  have q4 := q.old (n' := n3 + 1) (by omega) O4
  cases hi : kG I z with
  | none =>
    have hc : EB L I aR z = 0 := by unfold EB; rw [hi]
    rw [hc]
    simp only [aC, fgr, execOp, opd, ofValue, aD, put, nth, aB, bor, aJ, aK, intOp, Int.reduceEq, rW, gB, gI]
    exact O4
  | some i =>
    have hc : EB L I aR z = zL (ofV L aR z) := by unfold EB; rw [hi]
    rw [hc]
    obtain ⟨x, lv, rs, ix, il, sa, sb, sc⟩ := q4
    simp only [aC, tyr, fgr, execOp, opd, ofValue, aD, put, nth, aB, und, sizeOf, bor, aJ, aK, intOp, nilCheck, aZ, aS, fieldAddr, bne_self_eq_false, rW, gL, gB, gI]
    rw [aM (rs.one (off := 0) rfl qA rfl)]
    simp only [aC, hkr, execOp, opd, bG, aD, put, nth, aL, aE, gL]
    have hb4 : Bytes H4 sv aR := hb.aX fun j w => O4 j (hsn j w)
    refine bF f4 (f43k sv aR z ix.k hb4 (fun j w => by have := hsn j w; omega) hL f4) fun v5 h5 n5 hn5 f5 ⟨l5, o5⟩ => ?_
    simp only [aC, fgr, execOp, opd, bG, ofValue, aD, put, nth, aB, aL, builtin, dH, l5.len]
    have hlen : (ofV L aR z).length ≤ 900000 := Nat.le_trans (List.length_filter_le _ _) hL
    refine TQ _ _ v5 (n3 + 1) n5 (ofV L aR z) h5 hlen l5 ?_ (ofV L aR z).length 0 h5 n5 _ _ _ _ _ _ _ (by omega) (Old.refl _ _) (Nat.le_refl _) f5
    intro h6 n6 x0 x1 x2 x9 x12 x20 x31 o6 hn6 f6
    simp only [aC, fgr, execOp, opd, ofValue, aD, put, nth, aB, gB]
    exact fun j hj => by rw [o6 j (by omega), o5 j (by omega), O4 j hj]
def trV (z : Int) (l : List Ver) : List Ver := (l.filter fun v => decide (v.made ≤ z)).map (asV z)
theorem XD {l : List Ver} {i : Nat} (h : i < l.length) (z : Int) : trV z (l.take (i + 1)) = if l[i].made ≤ z then trV z (l.take i) ++ [asV z l[i]] else trV z (l.take i) := by
  unfold trV
  rw [jO h, List.filter_append, List.map_append]
  by_cases c : l[i].made ≤ z
  · rw [if_pos c]; simp [c]
  · rw [if_neg c]; simp [c]
theorem I7 (z : Int) (l : List Ver) : (trV z l).length ≤ l.length := by
  unfold trV
  rw [List.length_map]
  exact List.length_filter_le _ _
def lA (L : List Ver) (I : List Inf) (hash : List UInt8) (pn z : Int) : List Ver := match kG I z with
  | some _ => trV z (vV L hash pn)
  | none => []
theorem TV (Q : eJ) (ks : List Kf) (v : a9) (a b : Nat) (z : Int) (l : List Ver) (h0 : Hp) (hl : l.length ≤ 900000) (hv : VL h0 a b v l) (hab : a ≤ b)
    (hT : ∀ (h : Hp) (n : Nat) (acc : a9) (cells : List a9) (x0 x1 x4 x9 x12 x20 x30 x36 : a9), Lst h 31 70 acc (trV z l).length cells → Vs h (fun j => a ≤ j ∧ j < n ∧ bB acc ≠ some j) cells (trV z l) → (∀ j, bB acc = some j → b ≤ j) → b ≤ n → bO h n → Old h0 h b →
      dV env 21 none Q ks (.exit 0) (x0 :: x1 :: .int .i64 z :: a9.aA :: x4 :: a9.aA :: .aV :: .int .i64 0 :: a9.aA :: x9 :: acc :: a9.aA :: x12 :: a9.aA :: a9.aA :: a9.aA :: a9.aA :: a9.aA :: a9.aA :: a9.aA :: x20 :: a9.aA :: a9.aA :: a9.aA :: a9.aA :: a9.aA :: a9.aA :: v :: .int .i64 (l.length : Nat) :: .int .i64 (l.length : Nat) :: x30 :: a9.aA :: a9.aA :: a9.aA :: a9.aA :: a9.aA :: x36 :: a9.aA :: a9.aA :: a9.aA :: a9.aA :: a9.aA :: a9.aA :: a9.aA :: a9.aA :: []) h n) :
    ∀ (m i : Nat) (h : Hp) (n : Nat) (acc : a9) (cells : List a9) (x0 x1 x4 x9 x12 x20 x30 x36 : a9), i + m = l.length → Lst h 31 70 acc (trV z (l.take i)).length cells → Vs h (fun j => a ≤ j ∧ j < n ∧ bB acc ≠ some j) cells (trV z (l.take i)) → (∀ j, bB acc = some j → b ≤ j) → b ≤ n → bO h n → Old h0 h b →
      Run env 21 none Q (.loop DL) ks (x0 :: x1 :: .int .i64 z :: a9.aA :: x4 :: a9.aA :: .aV :: .int .i64 0 :: a9.aA :: x9 :: acc :: a9.aA :: x12 :: a9.aA :: a9.aA :: a9.aA :: a9.aA :: a9.aA :: a9.aA :: a9.aA :: x20 :: a9.aA :: a9.aA :: a9.aA :: a9.aA :: a9.aA :: a9.aA :: v :: .int .i64 (l.length : Nat) :: .int .i64 (i : Nat) :: x30 :: a9.aA :: a9.aA :: a9.aA :: a9.aA :: a9.aA :: x36 :: a9.aA :: a9.aA :: a9.aA :: a9.aA :: a9.aA :: a9.aA :: a9.aA :: a9.aA :: []) h n := by
  intro m
  induction m with
  | zero =>
    intro i h n acc cells x0 x1 x4 x9 x12 x20 x30 x36 hm ha hV hi hn hf ho
    have : i = l.length := by omega
    subst this
    rw [List.take_length] at ha hV
    rw [cF]
    have hcc : ¬ (((l.length : Nat) : Int) < ((l.length : Nat) : Int)) := by omega
    simp only [DL, bS, Try.f21, Option.getD_some, aC, fgr, execOp, opd, aD, put, nth, aB, bor, aJ, aK, intOp, List.getD_cons_zero, hcc, gL, gB]
    exact hT h n acc cells _ _ _ _ _ _ _ _ ha hV hi hn hf ho
  | succ m ih =>
    intro i h n acc cells x0 x1 x4 x9 x12 x20 x30 x36 hm ha hV hi hn hf ho
    have hv' := hv.old (Nat.le_refl _) ho
    have hil : i < l.length := by omega
    have hcc : (((i : Nat) : Int) < ((l.length : Nat) : Int)) := by omega
    have w1 : IntKind.i64.wrap (((i : Nat) : Int) + 1) = ((i + 1 : Nat) : Int) := by rw [w64 (by omega) (by omega)]; omega
    obtain ⟨sw, va⟩ := hv'.at_ hil
    have hs := XD hil z
    generalize l[i] = w at *
    rw [cF]
    simp only [DL, bS, Try.f21, Option.getD_some, aC, fgr, execOp, opd, aD, put, nth, aB, bor, aJ, aK, intOp, List.getD_cons_zero, hcc, gL, gB]
    rw [aM (hv'.idx hil)]
    simp only [aC, execOp, opd, aD, put, nth]
    rw [aM (va.all n)]
    simp only [aC, execOp, aD, put]
    rw [cD dY rfl]
    simp only [aC, execOp, opd, aD, put, nth, cel]
    have kd := va.s.kind
    refine dQ (v := .agg (aO w sw)) dY rfl (bM va.ok.h va.ok.b) (cL kd.2.1) hf fun H1 r1 p1 f1 => ?_
    replace r1 : Row H1 n (aO w sw) := r1
    have accl : ∀ j, bB acc = some j → j < n := fun j q => ha.live hf q
    have O1 : Old h0 H1 b := fun j hj => by rw [p1 j (by omega), ho j hj]
    have ha1 := ha.aX (h' := H1) fun j q => p1 j (by have := accl j q; omega)
    have hV1 := hV.mono (h' := H1) (D' := fun j => a ≤ j ∧ j < n + 1 ∧ bB acc ≠ some j) (fun j q => ⟨q.1, by omega, q.2.2⟩) (fun j q => p1 j (by omega))
    simp only [aC, tyr, fgr, execOp, opd, aD, put, nth, aB, und, sizeOf, aZ, aS, fieldAddr, gL, gI]
    rw [aM (eS r1 va.ok)]
    by_cases c : w.made ≤ z
    · rw [if_pos c] at hs
      simp only [aC, fgr, execOp, opd, aD, put, nth, aB, bor, aJ, aK, intOp, c, gB]
      rw [aM (eN r1 va.ok)]
      simp only [aC, hkr, execOp, opd, bG, aD, put, nth, aL, aE, gL]
      refine bF f1 (f62 w sw z va.ok kd H1 (n + 1) f1) fun v2 h2 n2 hn2 f2 ⟨e2, o2⟩ => ?_
      subst e2
      have okB := MR va.ok z
      simp only [aC, execOp, opd, dE, aD, put, nth, HR (bM okB.h okB.b)]
      refine j4 dY f2 (f := fun id => a9.sl id 0 1 (some 1) 70) fun H3 g3 o3 f3 => ?_
      simp only [aC, execOp, opd, bG, aD, put, nth, aL, builtin, fC]
      have o13 : Old H1 H3 (n + 1) := fun j hj => by rw [o3 j (by omega), o2 j hj]
      have ha3 := ha1.aX (h' := H3) (fun j q => o13 j (by have := accl j q; omega))
      have hV3 := hV1.mono (h' := H3) (D' := fun j => a ≤ j ∧ j < n + 1 ∧ bB acc ≠ some j) (fun j q => q) (fun j q => o13 j q.2.1)
      have hlen : (trV z (l.take i)).length ≤ 900000 := by
        have h1 := I7 z (l.take i)
        have h2 : (l.take i).length ≤ l.length := by rw [List.length_take]; omega
        omega
      refine fU (i := fG.i) (e := 31) ha3 (nE (cnt := 1) g3 (by rw [bM okB.h okB.b]; rfl)) u43 u43 dY (cL kd.2.1) (by decide) (by show 2 * (_ + 1) * 128 ≤ _; omega) (by omega) f3 ?_
      intro acc' h4 n4 hn4 f4 l4 i4 o4
      simp only [aC, fgr, execOp, opd, ofValue, aD, put, nth, aB, bor, aJ, aK, intOp, bU, w1, gB]
      have i4' : ∀ j, bB acc' = some j → b ≤ j := fun j q => by
        rcases i4 with w | ⟨w, _⟩
        · rw [w] at q; exact hi j q
        · rw [w] at q; injection q with q; omega
      have hne : ∀ j, j < n2 + 1 → bB acc ≠ some j → bB acc' ≠ some j := fun j hj hn q => by
        rcases i4 with w | ⟨w, _⟩
        · rw [w] at q; exact hn q
        · rw [w] at q; injection q with q; omega
      have hV4 := hV3.mono (h' := h4) (D' := fun j => a ≤ j ∧ j < n4 ∧ bB acc' ≠ some j) (fun j q => ⟨q.1, by omega, hne j (by omega) q.2.2⟩) (fun j q => o4 j (by omega) q.2.2)
      have swl : ∀ j, bB sw = some j → a ≤ j ∧ j < b := va.sn
      have swa : ∀ j, bB sw = some j → bB acc ≠ some j := fun j q w => by have := hi j w; have := swl j q; omega
      have b4 : Bytes h4 sw (asV z w).aR := by
        rw [xB]
        exact va.s.aX fun j q => by
          have := swl j q
          rw [o4 j (by omega) (swa j q), o13 j (by omega), p1 j (by omega)]
      have hV5 := hV4.snoc b4 okB (fun j q => ⟨(swl j q).1, by have := swl j q; omega, hne j (by have := swl j q; omega) (swa j q)⟩)
      rw [← hs] at hV5
      have l5 : Lst h4 31 70 acc' (trV z (l.take (i + 1))).length (cells ++ aO (asV z w) sw) := by
        rw [hs, List.length_append]; exact l4
      exact ih (i + 1) h4 n4 acc' _ _ _ _ _ _ _ _ _ (by omega) l5 hV5 i4' (by omega) f4 (fun j hj => by rw [o4 j (by omega) (fun q => by have := hi j q; omega), o13 j (by omega), O1 j hj])
    · rw [if_neg c] at hs
      rw [← hs] at ha1 hV1
      simp only [aC, fgr, execOp, opd, ofValue, aD, put, nth, aB, bor, aJ, aK, intOp, bU, c, w1, gB]
      exact ih (i + 1) H1 (n + 1) acc cells _ _ _ _ _ _ _ _ (by omega) ha1 hV1 hi (by omega) f1 O1
end Go.Am.Ytlgebaofkolkoaa
