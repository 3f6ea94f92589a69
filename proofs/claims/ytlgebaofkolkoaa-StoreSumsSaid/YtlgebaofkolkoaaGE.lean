/- What the statement reaches, gone through; and the abstract machine that goes through it. -/
import Derived.Test.YtlgebaofkolkoaaGD
set_option linter.unusedSimpArgs false
set_option linter.unusedVariables false
set_option linter.defProp false
set_option maxRecDepth 10000
namespace Go.Am.Ytlgebaofkolkoaa
open Go Go.Am Go.Proofs
set_option maxHeartbeats 4000000 in
theorem f37 (x : Nat) (aP : List UInt8) (pn z : Int) (hl : aP.length = 32) (L : List Ver) (D M : Nat → Prop) (h : Hp) (n : Nat) (hs : Ix h n D M x L) (hc : L.length ≤ 1000000) (hf : bB h n) :
    Wp (aQ env (aE env) 37 [.ptr x 0, .agg (aV aP pn), .int .i64 z]) h n fun v' h' n' => Old h h' n ∧ ∃ k, pos false L (key aP pn 0) ≤ k ∧ (∀ i (hi : i < L.length), pos false L (key aP pn 0) ≤ i → i < k → same aP pn L[i] = true) ∧ (∀ hk : k < L.length, same aP pn L[k] = false) ∧
      ((fnd L (pos false L (key aP pn 0)) k z = none ∧ v' = .tup [.agg eQ.i.zero.cells, .bool false]) ∨ ∃ w s', fnd L (pos false L (key aP pn 0)) k z = some w ∧ v' = .tup [.agg (aN w s'), .bool true] ∧ w ∈ L ∧ Bytes h' s' w.aI ∧ ∀ j, aT s' = some j → n ≤ j ∧ j < n') := by
  obtain ⟨⟨S, s0, rS, perm⟩, rL, ok⟩ := hs
  obtain ⟨vl, vs, xl, xs, iv, mx, ml, ms, mn⟩ := s0
  refine aW aU2 aK4 ?_
  simp only [ab5, Try.f37, Option.getD_some, List.replicate, Nat.reduceAdd, Nat.reduceSub, gE]
  refine cX (v := .agg (aV aP pn)) jJ rfl hf fun H1 r1 o1 f1 => ?_
  simp only [gE]
  refine cX (v := .int .i64 z) ti3 rfl f1 fun H2 r2 o2 f2 => ?_
  simp only [gE]
  rw [cC eR rfl]
  obtain ⟨H3, hH3⟩ : ∃ H3, H3 = upd H2 (n + 1 + 1) (some (Blk.row (bI.l eQ.i.zero.cells) 31)) := ⟨_, rfl⟩
  show Ops env 37 none _ _ _ _ _ (upd H2 (n + 1 + 1) (some (Blk.row (bI.l eQ.i.zero.cells) 31))) _
  rw [← hH3]
  have f3 : bB H3 (n + 1 + 1 + 1) := by rw [hH3]; exact f2.new
  have o3 : ∀ j, j ≠ n + 1 + 1 → H3 j = H2 j := fun j hj => by rw [hH3, aK _ _ hj]
  have r3 : H3 (n + 1 + 1) = some (Blk.row (bI.l eQ.i.zero.cells) 31) := by rw [hH3, aM]
  clear hH3
  simp only [tyr, fgr, cel, alloc, oG, newRow, gE]
  have r1' : Row (upd H3 (n + 1 + 1 + 1) (some (Blk.row (bI.l [a9.cY]) 128))) n (aV aP pn) := ((r1.aO (o2 n (by omega))).aO (o3 n (by omega))).upd (by omega)
  rw [aH (show Rd (load env 28 (.ptr n 0)) _ _ [n] (.agg (aV aP pn)) from Row.gY r1' jJ rfl (bW hl))]
  simp only [hkr, gE]
  refine dJ (f81 x aP pn _ _) ?_
  simp only [bK, fgr, bQ, put, aJ]
  refine mT (g := 106) (first := []) (cap := [.ptr (n + 1 + 1 + 1 + 1) 0, .ptr (n + 1 + 1 + 1 + 1 + 1) 0]) rfl rfl ?_
  let TM : List a9 := (.ptr x 0 :: .agg (aV aP pn) :: .int .i64 z :: a9.aA :: .ptr n 0 :: .ptr (n + 1) 0 :: .ptr (n + 1 + 1) 0 :: .bool false :: .ptr (n + 1 + 1 + 1) 0 :: undef :: a9.aA :: a9.aA :: .fn (.func 106) [] [.ptr (n + 1 + 1 + 1 + 1) 0, .ptr (n + 1 + 1 + 1 + 1 + 1) 0] :: undef :: a9.aA :: a9.aA :: a9.aA :: a9.aA :: a9.aA :: undef :: a9.aA :: a9.aA :: undef :: a9.aA :: a9.aA :: a9.aA :: a9.aA :: a9.aA :: [])
  obtain ⟨H6, hH6⟩ : ∃ H6, H6 = upd (upd (upd (upd H3 (n + 1 + 1 + 1) (some (Blk.row (bI.l [a9.cY]) 128))) (n + 1 + 1 + 1 + 1) (some (Blk.row (bI.l [a9.ptr x 0]) 56))) (n + 1 + 1 + 1 + 1 + 1) (some (Blk.row (bI.l (aV aP pn)) 28))) (n + 1 + 1 + 1 + 1 + 1 + 1) (some (Blk.loop (L37 TM))) := ⟨_, rfl⟩
  show Wp (bM env (aE env) 106 [a9.fn (Fn.yield (n + 1 + 1 + 1 + 1 + 1 + 1)) [] [], a9.ptr (n + 1 + 1 + 1 + 1) 0, a9.ptr (n + 1 + 1 + 1 + 1 + 1) 0]) (upd (upd (upd (upd H3 (n + 1 + 1 + 1) (some (Blk.row (bI.l [a9.cY]) 128))) (n + 1 + 1 + 1 + 1) (some (Blk.row (bI.l [a9.ptr x 0]) 56))) (n + 1 + 1 + 1 + 1 + 1) (some (Blk.row (bI.l (aV aP pn)) 28))) (n + 1 + 1 + 1 + 1 + 1 + 1) (some (Blk.loop (L37 TM)))) _ _
  rw [UR, ← hH6]
  have f6 : bB H6 (n + 1 + 1 + 1 + 1 + 1 + 1 + 1) := by rw [hH6]; exact f3.new.new.new.new
  have old6 : Old h H6 n := fun j hj => by rw [hH6, aK _ _ (by omega), aK _ _ (by omega), aK _ _ (by omega), aK _ _ (by omega), o3 j (by omega), o2 j (by omega), o1 j (by omega)]
  have g1 : Row H6 (n + 1) [.int .i64 z] := by rw [hH6]; exact ((((r2.aO (o3 (n + 1) (by omega))).upd (by omega)).upd (by omega)).upd (by omega)).upd (by omega)
  have g2 : H6 (n + 1 + 1) = some (Blk.row (bI.l eQ.i.zero.cells) 31) := by rw [hH6, aK _ _ (by omega), aK _ _ (by omega), aK _ _ (by omega), aK _ _ (by omega)]; exact r3
  have g3 : H6 (n + 1 + 1 + 1) = some (Blk.row (bI.l [a9.cY]) 128) := by rw [hH6, aK _ _ (by omega), aK _ _ (by omega), aK _ _ (by omega), aM]
  have g4 : Row H6 (n + 1 + 1 + 1 + 1) [.ptr x 0] := by rw [hH6]; exact ((Row.new _ _ _ _).upd (by omega)).upd (by omega)
  have g5 : Row H6 (n + 1 + 1 + 1 + 1 + 1) (aV aP pn) := by rw [hH6]; exact (Row.new _ _ _ _).upd (by omega)
  have g6 : H6 (n + 1 + 1 + 1 + 1 + 1 + 1) = some (.loop (L37 TM)) := by rw [hH6, aM]
  clear hH6
  have iv6 : IxV H6 (n + 1 + 1 + 1 + 1 + 1 + 1 + 1) D x vl vs xl xs L S := by
    exact ⟨iv.row.aO (old6 x iv.xn), iv.l.aO (fun j q => old6 j (mn j (ml j q)).1), iv.lp.mono (fun j q => q) (fun j q => old6 j (iv.dn j q)), iv.s.aO (fun j q => old6 j (mn j (ms j q)).1), iv.sp.mono (fun j q => q) (fun j q => old6 j (iv.dn j q)), by have := iv.xn; omega, fun j q => by have := iv.dn j q; omega, iv.xd, iv.vlx, iv.vsx⟩
  have lt : ∀ (j : Nat), j < n → ∀ (h1 : Hp), (∀ j, j < n + 1 + 1 + 1 + 1 + 1 + 1 + 1 → j ≠ n + 1 + 1 + 1 → j ≠ n + 1 + 1 + 1 + 1 + 1 + 1 → h1 j = H6 j) → h1 j = H6 j := fun j hj h1 hk => hk j (by omega) (by omega) (by omega)
  refine cN ((f106 (.fn (.yield (n + 1 + 1 + 1 + 1 + 1 + 1)) [] []) (n + 1 + 1 + 1 + 1) (n + 1 + 1 + 1 + 1 + 1) x aP pn hl L S D (P37 H6 n D L aP pn z (L37 TM)) (fun _ _ _ => False) vl vs xl xs H6 (n + 1 + 1 + 1 + 1 + 1 + 1 + 1) iv6 (fun j q => by have := (mn j (ml j q)).1; omega) rL hc ⟨rfl, rfl, rfl⟩ g4 g5 (by omega) (by omega) f6 ?_ ?_ ?_ (fun _ _ _ _ _ _ _ q => q) ?_).zJ f6) ?_
  · intro nS k h1 n1 p
    exact ⟨iv6.l.rds.aO (fun j q => lt j (mn j (ml j q)).1 h1 p.kp), iv6.lp.mono (fun j q => q) (fun j q => lt j (iv.dn j q) h1 p.kp), p.fr⟩
  · intro h' nS hn' hf' ho'
    exact ⟨hf', Nat.le_refl _, fun j hj _ _ => ho' j hj, (ho' _ (by omega)).trans g6, ⟨.cY, (ho' _ (by omega)).trans g3, .inl ⟨rfl, ap4 _ _ _⟩⟩, fun i hi h1 h2 => by omega⟩
  · intro nS k h1 n1 i b hi hns p
    obtain ⟨c, hc1, hc2⟩ := p.cl
    exact ⟨p.fr.upd (by have := p.ns; omega), p.ns, fun j hj h1' h2' => by rw [aK _ _ (by omega)]; exact p.kp j hj h1' h2', by rw [aK _ _ (by omega)]; exact p.lp, ⟨c, by rw [aK _ _ (by omega)]; exact hc1, hc2⟩, p.sm⟩
  · intro nS k hk id sv h1 n1 hnS hpk p a d1 d2 hsm
    have hidn := iv.dn id d1
    refine oO p.lp rfl rfl ?_
    simp only [MX, List.getD_cons_zero, mL, List.zip_cons_cons, List.zip_nil_left, L37, TM, cG, Try.f37, Option.getD_some, fgr, gE]
    refine ⟨_, p.lp, rfl, ?_⟩
    obtain ⟨h2, hh2⟩ : ∃ h2, h2 = upd h1 (n + 1 + 1 + 1 + 1 + 1 + 1) (some (Blk.loop { L37 TM with state := .busy })) := ⟨_, rfl⟩
    have ho2 : ∀ j, j ≠ n + 1 + 1 + 1 + 1 + 1 + 1 → h2 j = h1 j := fun j hj => by rw [hh2, aK _ _ hj]
    have hlo2 : h2 (n + 1 + 1 + 1 + 1 + 1 + 1) = some (.loop { L37 TM with state := .busy }) := by rw [hh2, aM]
    have hns := p.ns
    have hf2 : bB h2 n1 := by rw [hh2]; exact p.fr.upd (by omega)
    show Run env 37 _ _ _ _ _ (upd h1 (n + 1 + 1 + 1 + 1 + 1 + 1) (some (Blk.loop { L37 TM with state := .busy }))) n1
    rw [← hh2]
    clear hh2
    have a2 : At h2 id sv L[k] := a.aO (ho2 id (by omega)) (fun j q => ho2 j (by have := iv.dn j (d2 j q); omega))
    have a6 : At H6 id sv L[k] := a.aO (lt id hidn h1 p.kp).symm (fun j q => (lt j (iv.dn j (d2 j q)) h1 p.kp).symm)
    have rz : Row h2 (n + 1) [.int .i64 z] := g1.aO ((ho2 (n + 1) (by omega)).trans (p.kp (n + 1) (by omega) (by omega) (by omega)))
    obtain ⟨c, hc1, hc2⟩ := p.cl
    simp only [MT, List.getD_cons_zero, cG, Try.f37, Option.getD_some, bK, fgr, List.nil_append, List.append_nil]
    refine c9 ⟨rfl, ?_⟩
    simp only [Nat.reduceAdd, gE]
    rw [aZ (fM a2.row a2.ok)]
    simp only [Nat.reduceAdd, gE]
    rw [aZ (rz.one (off := 0) rfl ti3 rfl)]
    simp only [hkr, Nat.reduceAdd, gE]
    refine dC hf2 (f82 L[k] sv a2.ok z h2 n1 hf2) fun v6 h6 n6 r6 w6 hn6 f6' ⟨e6, o6⟩ => ?_
    subst e6
    have hlo6 : h6 (n + 1 + 1 + 1 + 1 + 1 + 1) = some (.loop { L37 TM with state := .busy }) := (o6 _ (by omega)).trans hlo2
    have hc6 : h6 (n + 1 + 1 + 1) = some (.row (.l [c]) 128) := ((o6 _ (by omega)).trans (ho2 _ (by omega))).trans hc1
    have sm' : ∀ i (hi : i < L.length), pos false L (key aP pn 0) ≤ i → i < k + 1 → same aP pn L[i] = true := fun i hi h1' h2' => by
      by_cases q : i = k
      · subst q; exact hsm
      · exact p.sm i hi h1' (by omega)
    have keep6 : ∀ j, j < n1 → j ≠ n + 1 + 1 + 1 + 1 + 1 + 1 → h6 j = h1 j := fun j hj hne => (o6 j hj).trans (ho2 j hne)
    cases hth : cI L[k] z with
    | false =>
      simp only [fgr, unOp, Nat.reduceAdd, gE]
      refine ⟨(by (try simp (disch := first | assumption | omega) only [cM, gF]); repeat' (first | rfl | exact (Bool.or_eq_true _ _).mpr (.inr rfl) | refine (Bool.and_eq_true _ _).mpr ⟨?_, ?_⟩)), _, hlo6, .inl ⟨.inl rfl, ⟨f6'.upd (by omega), by omega, fun j hj h1' h2' => ?_, aM _ _ _, ⟨c, by rw [aK _ _ (by omega)]; exact hc6, by rw [UY hpk hk, hth]; exact hc2⟩, sm'⟩⟩, fun j hj hjn => ?_, ?_⟩
      · rw [aK _ _ h2', keep6 j (by omega) h2']; exact p.kp j hj h1' h2'
      · rw [aK _ _ (by omega), keep6 j (by omega) (by omega)]
      · rw [aK _ _ (by omega), keep6 _ (by omega) (by omega)]
    | true =>
      simp only [fgr, unOp, Nat.reduceAdd, gE]
      refine ⟨(by (try simp (disch := first | assumption | omega) only [cM, gF]); repeat' (first | rfl | exact (Bool.or_eq_true _ _).mpr (.inr rfl) | refine (Bool.and_eq_true _ _).mpr ⟨?_, ?_⟩)), ?_⟩
      rw [dE (Row.write (v := .ptr id 0) hc6 iO rfl (by show 0 + 1 ≤ 1; omega) rfl)]
      simp only [bK, fgr, bQ, aJ, cel]
      have spl : bV [c] 0 [a9.ptr id 0] = [a9.ptr id 0] := rfl
      refine ⟨_, (aK _ _ (by omega)).trans hlo6, .inl ⟨.inl rfl, ⟨(f6'.upd (by omega)).upd (by omega), by omega, fun j hj h1' h2' => ?_, aM _ _ _, ⟨.ptr id 0, by rw [aK _ _ (by omega), aM]; rfl, .inr ⟨id, sv, L[k], rfl, by rw [UY hpk hk, hth]; rfl, a6, d1, d2⟩⟩, sm'⟩⟩, fun j hj hjn => ?_, ?_⟩
      · rw [aK _ _ h2', aK _ _ h1', keep6 j (by omega) h2']; exact p.kp j hj h1' h2'
      · rw [aK _ _ (by omega), aK _ _ (by omega), keep6 j (by omega) (by omega)]
      · rw [aK _ _ (by omega), aK _ _ (by omega), keep6 _ (by omega) (by omega)]
  · rintro v5 h5 n5 ⟨⟨e5, nS, hnS, hh⟩, hn5, f5⟩
    rcases hh with ⟨k, hk1, p, hk3⟩ | hr
    · refine ⟨_, p.lp, (fun q => by cases q), .normal, rfl, ?_⟩
      obtain ⟨c, hc1, hc2⟩ := p.cl
      have hns := p.ns
      obtain ⟨h7, hh7⟩ : ∃ h7, h7 = upd h5 (n + 1 + 1 + 1 + 1 + 1 + 1) (some (Blk.loop { L37 TM with state := .exhausted })) := ⟨_, rfl⟩
      have ho7 : ∀ j, j ≠ n + 1 + 1 + 1 + 1 + 1 + 1 → h7 j = h5 j := fun j hj => by rw [hh7, aK _ _ hj]
      have f7 : bB h7 n5 := by rw [hh7]; exact f5.upd (by omega)
      show cT env 37 none _ _ _ _ (upd h5 (n + 1 + 1 + 1 + 1 + 1 + 1) (some (Blk.loop { L37 TM with state := .exhausted }))) n5
      rw [← hh7]
      clear hh7
      have kp7 : ∀ j, j < n → h7 j = h j := fun j hj => by rw [ho7 j (by omega), lt j hj h5 p.kp, old6 j hj]
      have hcell : Row h7 (n + 1 + 1 + 1) [c] := ⟨_, (ho7 _ (by omega)).trans hc1⟩
      have res : h7 (n + 1 + 1) = some (Blk.row (bI.l eQ.i.zero.cells) 31) := (ho7 _ (by omega)).trans ((p.kp _ (by omega) (by omega) (by omega)).trans g2)
      simp only [gE]
      rw [aH (hcell.one (off := 0) rfl iO rfl)]
      rcases hc2 with ⟨rfl, hn⟩ | ⟨id, sw, w, rfl, hw, a, d1, d2⟩
      · simp only [tyr, fgr, bor, bP, gR, bU, equal, iF, fH, fI, aX9, gE]
        rw [dE (Row.write (v := .agg eQ.i.zero.cells) res eR rfl (by decide) rfl)]
        have spl : bV eQ.i.zero.cells 0 (a9.agg eQ.i.zero.cells).cells = eQ.i.zero.cells := eB rfl
        rw [spl]
        simp only [fgr, gE]
        refine eK (Row.gY (cs := eQ.i.zero.cells) (Row.new _ _ _ _) eR rfl rfl) ?_
        exact aS.2 ⟨fun j hj => by rw [aK _ _ (by omega), kp7 j hj], k, hk1, p.sm, hk3, .inl ⟨hn, rfl⟩⟩
      · simp only [tyr, fgr, bor, bP, gR, bU, equal, iF, fH, fI, gE]
        rw [aH (hcell.one (off := 0) rfl iO rfl)]
        have hwL := TG hw
        have okw := ok w hwL
        have hidn := iv.dn id d1
        have a7 : At h7 id sw w := a.aO ((ho7 id (by omega)).trans (lt id hidn h5 p.kp)) (fun j q => (ho7 j (by have := iv.dn j (d2 j q); omega)).trans (lt j (iv.dn j (d2 j q)) h5 p.kp))
        simp only [gE]
        rw [aH (fM a7.row a7.ok)]
        simp only [hkr, gE]
        refine aU f7 (f77 w sw a7.ok h7 n5 a7.s (fun j q => by have := iv.dn j (d2 j q); omega) okw.2 f7) fun v8 h8 n8 hn8 f8 ⟨s', e8, b8, i8, o8⟩ => ?_
        subst e8
        simp only [gE]
        have res8 : h8 (n + 1 + 1) = some (Blk.row (bI.l eQ.i.zero.cells) 31) := (o8 _ (by omega)).trans res
        rw [dE (Row.write (v := .agg (aN w s')) res8 eR (bR a7.ok.h a7.ok.b) (by decide) (cU b8.kind.2.1))]
        have spl : bV eQ.i.zero.cells 0 (a9.agg (aN w s')).cells = aN w s' := eB (bR a7.ok.h a7.ok.b)
        rw [spl]
        simp only [fgr, gE]
        refine eK (fM (Row.new _ _ _ _) a7.ok) ?_
        refine aS.2 ⟨fun j hj => by rw [aK _ _ (by omega), o8 j (by omega), kp7 j hj], k, hk1, p.sm, hk3, .inr ⟨w, s', hw, rfl, hwL, b8.aO fun j q => aK _ _ (by have := i8 j q; omega), fun j q => by have := i8 j q; omega⟩⟩
    · exact hr.elim
theorem f89 (v w : a9) (a b : List UInt8) (h : Hp) (n : Nat) (ha : Bytes h v a) (hb : Bytes h w b) : Wp (aQ env (aE env) 89 [v, w]) h n fun v' h' n' => v' = .bool (a == b) ∧ h' = h ∧ n' = n := by
  refine aW aR1 aH3 ?_
  simp only [ZK, Try.f89, Option.getD_some, List.replicate, fgr, Nat.reduceAdd, Nat.reduceSub, ha.str t29 t9 t5, gE]
  rw [hb.str t29 t9 t5]
  simp only [fgr, bor, strOp, gE]
theorem ax6 (a b : List UInt8) (l1 : a.length = 32) (l2 : b.length = 32) : binOp env .eql 25 (.agg (a.map u8)) (.agg (b.map u8)) = M.pure (.bool (decide (a = b))) := by
  have e := PD 98 a b l1 l2
  show bP env .eql 25 (.agg (a.map u8)) (.agg (b.map u8)) = _
  unfold bP
  simp only
  unfold bU
  rw [e, aD]
theorem WX (o : Bool) (L : List Ver) (v : Ver) : pos o L v ≤ L.length := List.countP_le_length
theorem nQ {o : Bool} {L : List Ver} (r : cP o L) (v : Ver) : Pos o L v (pos o L v) := by
  induction L with
  | nil => exact ⟨Nat.le_refl _, fun k hk => absurd hk (Nat.not_lt_zero _), fun k hk => absurd hk (Nat.not_lt_zero _)⟩
  | cons a L ih =>
    have r' : cP o L := (List.pairwise_cons.1 r).2
    have ra := (List.pairwise_cons.1 r).1
    have i := ih r'
    by_cases c : gW o a v < 0
    · have e : pos o (a :: L) v = pos o L v + 1 := by unfold pos; rw [List.countP_cons, if_pos (decide_eq_true c)]
      rw [e]
      refine ⟨by have := i.le; simp; omega, fun k hk h => ?_, fun k hk h => ?_⟩
      · cases k with
        | zero => exact c
        | succ k => exact i.lo k (by simpa using hk) (by omega)
      · cases k with
        | zero => omega
        | succ k => exact i.hi k (by simpa using hk) (by omega)
    · have all : ∀ b ∈ L, ¬ gW o b v < 0 := fun b hb h => c ((BH o).lt _ _ _ (ra b hb) h)
      have e : pos o (a :: L) v = 0 := by
        unfold pos
        rw [List.countP_eq_zero]
        intro b hb
        rcases List.mem_cons.1 hb with rfl | hb
        · simpa using c
        · simpa using all b hb
      rw [e]
      refine ⟨Nat.zero_le _, fun k hk h => absurd h (Nat.not_lt_zero _), fun k hk h => ?_⟩
      cases k with
      | zero => exact c
      | succ k => exact all _ (List.getElem_mem _)
theorem N4 {L : List Ver} {w v : Ver} (r : cP false L) (hw : w ∈ L) (he : eO w v = 0) : pos false (kV L w) v = pos false L w := by
  obtain ⟨hp, hpw⟩ := nR r (nQ r w) hw
  have pm := (jU hp).countP_eq (fun u => decide (gW false u w < 0))
  have e : ∀ u : Ver, gW false u v = gW false u w := fun u => (p9.eqr (d := u) he).symm
  show (iB L (pos false L w)).countP (fun u => decide (gW false u v < 0)) = _
  simp only [e]
  rw [List.countP_cons, if_neg (by
    rw [hpw]
    have := p9.refl w
    simp only [decide_eq_true_eq]
    show ¬ eO w w < 0
    omega)] at pm
  exact pm.symm
theorem N0 {L : List Ver} {w v : Ver} (r : cP false L) (hw : w ∈ L) (he : eO w v = 0) : kW (kV L w) v = L.set (pos false L w) v := by
  obtain ⟨hp, hpw⟩ := nR r (nQ r w) hw
  have ht : (L.take (pos false L w)).length = pos false L w := by rw [List.length_take]; omega
  unfold kW
  rw [N4 r hw he]
  unfold kV fB iB
  rw [List.take_left' ht, List.drop_left' ht, List.set_eq_take_append_cons_drop, if_pos hp]
noncomputable def L43 (tm : List a9) : m9 := { state := .ready, pending := none, fn := 43, tmps := tm, params := [19], assign := MW, body := MS }
def iI (aI : List UInt8) : Ver := ⟨List.replicate 32 0, 0, 0, 0, aI, false, 0, List.replicate 32 0⟩
theorem T8 (aI : List UInt8) : (iI aI).Ok := ⟨rfl, rfl⟩
def z35 : List a9 := List.replicate 32 (.int .u8 0) ++ [.int .u32 0, .int .i64 0, .int .i64 0]
def z34 : List a9 := [.bool false, .int .i64 0] ++ List.replicate 32 (.int .u8 0)
theorem az6 : eQ.i.zero.cells = z35 ++ [.aL] ++ z34 := rfl
theorem QA {sv : a9} {aI : List UInt8} (hs : sv.cells = [sv] ∧ bC sv = true ∧ dA sv = false) : build env 31 [(3, sv)] = M.pure (.agg (aN (iI aI) sv)) := by
  have e1 : ∀ pl : Nat → Option (Nat × Nat), pl 3 = some (35, 1) → fill pl eQ.i.zero.cells [(3, sv)] = some (aN (iI aI) sv) := fun pl p0 => by
    rw [az6, gN p0 rfl rfl (by rw [hs.1]; rfl) hs.2.2, hs.1]
    simp only [fill]
    congr 1
  have e2 : build env 31 [(3, sv)] = (fS "build" (fill ([(0, 33), (33, 1), (34, 1), (35, 1), (36, 1), (37, 1), (38, 32)][·]?) eQ.i.zero.cells [(3, sv)])).bind fun cs => M.pure (.agg cs) := rfl
  rw [e2, e1 _ rfl]
  rfl
def rN (S : List Ver) (p k : Nat) (z : Int) : List Ver := ((S.take k).drop p).filter fun v => cI v z
theorem LL (S : List Ver) (p : Nat) (z : Int) : rN S p p z = [] := by
  unfold rN
  rw [List.drop_eq_nil_of_le (by rw [List.length_take]; omega)]; rfl
theorem BB {L : List Ver} {p k : Nat} (hp : p ≤ k) (hk : k < L.length) (z : Int) : rN L p (k + 1) z = if cI L[k] z then rN L p k z ++ [L[k]] else rN L p k z := by
  unfold rN
  rw [List.take_add_one, List.getElem?_eq_getElem hk, List.drop_append_of_le_length (by rw [List.length_take]; omega), List.filter_append]
  by_cases c : cI L[k] z = true
  · rw [if_pos c]; simp [c]
  · rw [if_neg c]; simp [c]
theorem RR (L : List Ver) (p k : Nat) (z : Int) : (rN L p k z).length ≤ L.length := by
  unfold rN
  have h1 := List.length_filter_le (fun v => cI v z) ((L.take k).drop p)
  have h2 : ((L.take k).drop p).length ≤ L.length := by rw [List.length_drop, List.length_take]; omega
  omega
structure P43 (H7 : Hp) (n : Nat) (S : List Ver) (aI : List UInt8) (z : Int) (nS k : Nat) (h1 : Hp) (n1 : Nat) : Prop where
  fr : bB h1 n1
  n7 : n + 1 + 1 + 1 + 1 + 1 + 1 + 1 ≤ nS
  ns : nS ≤ n1
  kp : ∀ j, j < n + 1 + 1 + 1 + 1 + 1 + 1 + 1 → j ≠ n + 1 + 1 → j ≠ n + 1 + 1 + 1 + 1 + 1 + 1 → h1 j = H7 j
  cl : ∃ acc cells, h1 (n + 1 + 1) = some (.row (.l [acc]) 43) ∧ Lst h1 31 70 acc (rN S (pos true S (iI aI)) k z).length cells ∧ Vs h1 (fun j => nS ≤ j ∧ j < n1 ∧ aT acc ≠ some j) cells (rN S (pos true S (iI aI)) k z) ∧ ∀ j, aT acc = some j → nS ≤ j
  sm : ∀ i (hi : i < S.length), pos true S (iI aI) ≤ i → i < k → S[i].aI = aI
theorem f43 (x : Nat) (sv : a9) (aI : List UInt8) (z : Int) (L : List Ver) (D M : Nat → Prop) (h : Hp) (n : Nat) (hs : Ix h n D M x L) (hb : Bytes h sv aI) (hsn : ∀ j, aT sv = some j → j < n) (hc : L.length ≤ 1000000) (hf : bB h n) :
    Wp (aQ env (aE env) 43 [.ptr x 0, sv, .int .i64 z]) h n fun v' h' n' => Old h h' n ∧ ∃ S k, cP true S ∧ L.Perm S ∧ pos true S (iI aI) ≤ k ∧ (∀ i (hi : i < S.length), pos true S (iI aI) ≤ i → i < k → S[i].aI = aI) ∧ (∀ hk : k < S.length, S[k].aI ≠ aI) ∧ VL h' n n' v' (rN S (pos true S (iI aI)) k z) := by
  obtain ⟨⟨S, s0, rS, perm⟩, rL, ok⟩ := hs
  obtain ⟨vl, vs, xl, xs, iv, mx, ml, ms, mn⟩ := s0
  refine aW aT7 aJ9 ?_
  simp only [ab0, Try.f43, Option.getD_some, List.replicate, Nat.reduceAdd, Nat.reduceSub, gE]
  refine cX (v := sv) vP hb.kind.2.2 hf fun H1 r1 o1 f1 => ?_
  rw [hb.kind.1] at r1
  simp only [gE]
  refine cX (v := .int .i64 z) ti3 rfl f1 fun H2 r2 o2 f2 => ?_
  simp only [tyr, fgr, hkr, cel, alloc, oG, newRow, gE]
  obtain ⟨H3, hH3⟩ : ∃ H3, H3 = upd H2 (n + 1 + 1) (some (Blk.row (bI.l [a9.aL]) 43)) := ⟨_, rfl⟩
  rw [← hH3]
  have f3 : bB H3 (n + 1 + 1 + 1) := by rw [hH3]; exact f2.new
  have o3 : ∀ j, j ≠ n + 1 + 1 → H3 j = H2 j := fun j hj => by rw [hH3, aK _ _ hj]
  have r3 : H3 (n + 1 + 1) = some (Blk.row (bI.l [a9.aL]) 43) := by rw [hH3, aM]
  clear hH3
  have old3 : Old h H3 n := fun j hj => by rw [o3 j (by omega), o2 j (by omega), o1 j (by omega)]
  have r1' : Row H3 n [sv] := (r1.aO (o2 n (by omega))).aO (o3 n (by omega))
  have r2' : Row H3 (n + 1) [.int .i64 z] := r2.aO (o3 (n + 1) (by omega))
  refine dJ (f73 x _ true H3 _ (iv.row.aO (old3 x iv.xn)) rfl) ?_
  simp only [bK, fgr, opd, bQ, put, nth, aJ, Bool.not_true]
  refine c9 ⟨rfl, ?_⟩
  simp only [tyr, aR, Nat.reduceAdd, gE]
  rw [aZ (r1'.one (off := 0) rfl vP rfl)]
  simp only [cel, alloc, Nat.reduceAdd, QA (aI := aI) hb.kind, gE]
  refine kL (xs := aN (iI aI) sv) eR f3 fun H4 r4 o4 f4 => ?_
  simp only [hkr, Nat.reduceAdd, gE]
  refine dC f4 (f88 x 3 (n + 1 + 1 + 1) H4 _) fun v3 h3 n3 r3w w3 hn3 f5 ⟨e3, eh3, en3⟩ => ?_
  subst e3; subst en3
  simp only [oD, bK, fgr, bQ, put, aJ, Nat.reduceAdd]
  refine ⟨(by (try simp (disch := first | assumption | omega) only [cM, gF]); repeat' (first | rfl | exact (Bool.or_eq_true _ _).mpr (.inr rfl) | refine (Bool.and_eq_true _ _).mpr ⟨?_, ?_⟩)), ?_⟩
  have row4 : Row h3 (n + 1 + 1 + 1 + 1) [.ptr x 3] := by rw [eh3]; exact (Row.new _ _ _ _).upd (by omega)
  have row5 : Row h3 (n + 1 + 1 + 1 + 1 + 1) [.ptr (n + 1 + 1 + 1) 0] := by rw [eh3]; exact Row.new _ _ _ _
  have o5 : ∀ j, j < n + 1 + 1 + 1 + 1 → h3 j = H4 j := fun j hj => by rw [eh3, aK _ _ (by omega), aK _ _ (by omega)]
  clear eh3
  refine mT (g := 109) (first := []) (cap := [.ptr (n + 1 + 1 + 1 + 1) 0, .ptr (n + 1 + 1 + 1 + 1 + 1) 0]) rfl rfl ?_
  let TM : List a9 := (.ptr x 0 :: sv :: .int .i64 z :: a9.aA :: .ptr n 0 :: .ptr (n + 1) 0 :: .aL :: .ptr (n + 1 + 1) 0 :: undef :: a9.aA :: .bool false :: a9.aA :: a9.aA :: a9.aA :: a9.aA :: a9.aA :: a9.aA :: a9.aA :: .fn (.func 109) [] [.ptr (n + 1 + 1 + 1 + 1) 0, .ptr (n + 1 + 1 + 1 + 1 + 1) 0] :: undef :: a9.aA :: a9.aA :: a9.aA :: a9.aA :: a9.aA :: a9.aA :: undef :: a9.aA :: a9.aA :: a9.aA :: a9.aA :: undef :: a9.aA :: a9.aA :: a9.aA :: a9.aA :: a9.aA :: a9.aA :: a9.aA :: a9.aA :: [])
  obtain ⟨H7, hH7⟩ : ∃ H7, H7 = upd h3 (n + 1 + 1 + 1 + 1 + 1 + 1) (some (Blk.loop (L43 TM))) := ⟨_, rfl⟩
  show Wp (bM env (aE env) 109 [a9.fn (Fn.yield (n + 1 + 1 + 1 + 1 + 1 + 1)) [] [], a9.ptr (n + 1 + 1 + 1 + 1) 0, a9.ptr (n + 1 + 1 + 1 + 1 + 1) 0]) (upd h3 (n + 1 + 1 + 1 + 1 + 1 + 1) (some (Blk.loop (L43 TM)))) _ _
  rw [ON, ← hH7]
  have f7 : bB H7 (n + 1 + 1 + 1 + 1 + 1 + 1 + 1) := by rw [hH7]; exact f5.new
  have o7 : ∀ j, j ≠ n + 1 + 1 + 1 + 1 + 1 + 1 → H7 j = h3 j := fun j hj => by rw [hH7, aK _ _ hj]
  have g6 : H7 (n + 1 + 1 + 1 + 1 + 1 + 1) = some (.loop (L43 TM)) := by rw [hH7, aM]
  clear hH7
  have old7 : Old h H7 n := fun j hj => by rw [o7 j (by omega), o5 j (by omega), o4 j (by omega), old3 j hj]
  have g0 : Row H7 n [sv] := ((r1'.aO (o4 n (by omega))).aO (o5 n (by omega))).aO (o7 n (by omega))
  have g1 : Row H7 (n + 1) [.int .i64 z] := ((r2'.aO (o4 (n + 1) (by omega))).aO (o5 (n + 1) (by omega))).aO (o7 (n + 1) (by omega))
  have g2 : H7 (n + 1 + 1) = some (Blk.row (bI.l [a9.aL]) 43) := by rw [o7 _ (by omega), o5 _ (by omega), o4 _ (by omega)]; exact r3
  have g3 : Row H7 (n + 1 + 1 + 1) (aN (iI aI) sv) := by
    refine Row.aO (h := H4) ⟨_, r4⟩ ?_
    rw [o7 _ (by omega), o5 _ (by omega)]
  have lt : ∀ (j : Nat), j < n → ∀ (h1 : Hp), (∀ j, j < n + 1 + 1 + 1 + 1 + 1 + 1 + 1 → j ≠ n + 1 + 1 → j ≠ n + 1 + 1 + 1 + 1 + 1 + 1 → h1 j = H7 j) → h1 j = H7 j := fun j hj h1 hk => hk j (by omega) (by omega) (by omega)
  have hS : S.length = L.length := perm.length_eq.symm
  have kt : AtN H7 (n + 1 + 1 + 1 + 1 + 1 + 1 + 1) (n + 1 + 1 + 1) sv (iI aI) := ⟨⟨g3, hb.aO (fun j q => old7 j (hsn j q)), T8 _⟩, by omega, fun j q => by have := hsn j q; omega⟩
  have sl7 := iv.s.aO (h' := H7) (fun j q => old7 j (mn j (ms j q)).1)
  have sp7 := iv.sp.mono (h' := H7) (D' := D) (fun j q => q) (fun j q => old7 j (iv.dn j q))
  have hro : vN vs := by
    have q := iv.s
    generalize S.length = len at q
    cases q with
    | nil => trivial
    | zero => exact Nat.le_refl _
    | sl => trivial
  refine cN ((f109 true (.fn (.yield (n + 1 + 1 + 1 + 1 + 1 + 1)) [] []) (n + 1 + 1 + 1 + 1) (n + 1 + 1 + 1 + 1 + 1) x 3 _ vs (n + 1 + 1 + 1) sv (iI aI) S.length xs S D
    (fun k h1 n1 => ∃ nS, P43 H7 n S aI z nS k h1 n1 ∧ h1 (n + 1 + 1 + 1 + 1 + 1 + 1) = some (.loop (L43 TM)))
    (fun h1 n1 => ∃ l nS k, h1 (n + 1 + 1 + 1 + 1 + 1 + 1) = some (.loop l) ∧ l.state = .done ∧ l.pending = some (.exit 0) ∧ pos true S (iI aI) ≤ k ∧ P43 H7 n S aI z nS k h1 n1 ∧ ∀ hk : k < S.length, S[k].aI ≠ aI)
    H7 (n + 1 + 1 + 1 + 1 + 1 + 1 + 1) (row4.aO (o7 _ (by omega))) (row5.aO (o7 _ (by omega))) (iv.row.aO (old7 x iv.xn)) rfl rfl (by omega) sl7.rds hro (fun j q => by have := (mn j (ms j q)).1; omega) sp7 (fun j q => by have := iv.dn j q; omega) kt (rS.mono _) f7 (by omega) (by have := iv.xn; omega) ?_ ?_ ?_).zJ f7) ?_
  · rintro k h1 n1 ⟨nS, p, _⟩
    exact ⟨sl7.rds.aO (fun j q => lt j (mn j (ms j q)).1 h1 p.kp), sp7.mono (fun j q => q) (fun j q => lt j (iv.dn j q) h1 p.kp), p.fr⟩
  · intro p h' n' hpos hn' hf' ho'
    rw [hpos.eq]
    exact ⟨n', ⟨hf', by omega, Nat.le_refl _, fun j hj _ _ => ho' j hj, ⟨.aL, [], (ho' _ (by omega)).trans g2, by rw [LL]; exact .nil, by rw [LL]; exact Vs.nil _ _, fun j q => by cases q⟩, fun i hi h1 h2 => by omega⟩, (ho' _ (by omega)).trans g6⟩
  · rintro p k hk id sv2 h1 n1 hpos hpk ⟨nS, pp, hlo⟩ hx a d1 d2
    have hpk' : pos true S (iI aI) ≤ k := by rw [← hpos.eq]; exact hpk
    have hidn := iv.dn id d1
    have h77 := pp.n7
    have hns := pp.ns
    refine oO hlo rfl rfl ?_
    simp only [MW, List.getD_cons_zero, mL, List.zip_cons_cons, List.zip_nil_left, L43, TM, cG, Try.f43, Option.getD_some, fgr, gE]
    refine ⟨_, hlo, rfl, ?_⟩
    obtain ⟨h2, hh2⟩ : ∃ h2, h2 = upd h1 (n + 1 + 1 + 1 + 1 + 1 + 1) (some (Blk.loop { L43 TM with state := .busy })) := ⟨_, rfl⟩
    have ho2 : ∀ j, j ≠ n + 1 + 1 + 1 + 1 + 1 + 1 → h2 j = h1 j := fun j hj => by rw [hh2, aK _ _ hj]
    have hlo2 : h2 (n + 1 + 1 + 1 + 1 + 1 + 1) = some (.loop { L43 TM with state := .busy }) := by rw [hh2, aM]
    have hf2 : bB h2 n1 := by rw [hh2]; exact pp.fr.upd (by omega)
    show Run env 43 _ _ _ _ _ (upd h1 (n + 1 + 1 + 1 + 1 + 1 + 1) (some (Blk.loop { L43 TM with state := .busy }))) n1
    rw [← hh2]
    clear hh2
    have a2 : At h2 id sv2 S[k] := a.aO (ho2 id (by omega)) (fun j q => ho2 j (by have := iv.dn j (d2 j q); omega))
    have to7 : ∀ j, j < n + 1 + 1 → h2 j = H7 j := fun j hj => (ho2 j (by omega)).trans (pp.kp j (by omega) (by omega) (by omega))
    have rs : Row h2 n [sv] := g0.aO (to7 n (by omega))
    have rz : Row h2 (n + 1) [.int .i64 z] := g1.aO (to7 (n + 1) (by omega))
    have bs : Bytes h2 sv aI := hb.aO (fun j q => (to7 j (by have := hsn j q; omega)).trans (old7 j (hsn j q)))
    obtain ⟨acc, cells, q1, q2, q3, q4⟩ := pp.cl
    simp only [MS, List.getD_cons_zero, cG, Try.f43, Option.getD_some, bK, fgr, List.nil_append, List.append_nil]
    refine c9 ⟨rfl, ?_⟩
    simp only [tyr, aR, Nat.reduceAdd, gE]
    rw [aZ (j4 a2.row a2.ok)]
    simp only [Nat.reduceAdd, gE]
    rw [aZ (rs.one (off := 0) rfl vP rfl)]
    simp only [hkr, Nat.reduceAdd, gE]
    refine dC hf2 (f89 sv2 sv _ aI h2 n1 a2.s bs) fun v6 h6 n6 r6 w6 hn6 f6' ⟨e6, e7, e8⟩ => ?_
    subst e6; subst e7; subst e8
    cases hq : (S[k].aI == aI) with
    | false =>
      simp only [fgr, unOp, Nat.reduceAdd, gE]
      refine ⟨(by (try simp (disch := first | assumption | omega) only [cM, gF]); repeat' (first | rfl | exact (Bool.or_eq_true _ _).mpr (.inr rfl) | refine (Bool.and_eq_true _ _).mpr ⟨?_, ?_⟩)), _, hlo2, .inr ⟨.inl rfl, _, nS, k, aM _ _ _, rfl, rfl, hpk', ⟨hf2.upd (by omega), h77, hns, fun j hj h1' h2' => by rw [aK _ _ h2', ho2 j h2']; exact pp.kp j hj h1' h2', ⟨acc, cells, by rw [aK _ _ (by omega), ho2 _ (by omega)]; exact q1, q2.aO (fun j q => by rw [aK _ _ (by have := q4 j q; omega), ho2 _ (by have := q4 j q; omega)]), q3.mono (fun j q => q) (fun j q => by rw [aK _ _ (by omega), ho2 _ (by omega)]), q4⟩, pp.sm⟩, fun _ => beq_eq_false_iff_ne.1 hq⟩⟩
    | true =>
      simp only [fgr, unOp, Nat.reduceAdd, gE]
      refine ⟨(by (try simp (disch := first | assumption | omega) only [cM, gF]); repeat' (first | rfl | exact (Bool.or_eq_true _ _).mpr (.inr rfl) | refine (Bool.and_eq_true _ _).mpr ⟨?_, ?_⟩)), ?_⟩
      have hsc : S[k].aI = aI := beq_iff_eq.1 hq
      have sm' : ∀ i (hi : i < S.length), pos true S (iI aI) ≤ i → i < k + 1 → S[i].aI = aI := fun i hi h1' h2' => by
        by_cases e : i = k
        · subst e; exact hsc
        · exact pp.sm i hi h1' (by omega)
      refine c9 ⟨rfl, ?_⟩
      simp only [Nat.reduceAdd, gE]
      rw [aZ (fM a2.row a2.ok)]
      simp only [Nat.reduceAdd, gE]
      rw [aZ (rz.one (off := 0) rfl ti3 rfl)]
      simp only [hkr, Nat.reduceAdd, gE]
      refine dC hf2 (f82 S[k] sv2 a2.ok z h6 n6 hf2) fun v7 h8 n8 r7 w7 hn8 f8 ⟨e7, o8⟩ => ?_
      subst e7
      have hlo8 : h8 (n + 1 + 1 + 1 + 1 + 1 + 1) = some (.loop { L43 TM with state := .busy }) := (o8 _ (by omega)).trans hlo2
      have keep8 : ∀ j, j < n6 → j ≠ n + 1 + 1 + 1 + 1 + 1 + 1 → h8 j = h1 j := fun j hj hne => (o8 j hj).trans (ho2 j hne)
      cases hth : cI S[k] z with
      | false =>
        simp only [oD, bK, fgr, opd, bQ, put, nth, aJ, Nat.reduceAdd]
        refine ⟨(by (try simp (disch := first | assumption | omega) only [cM, gF]); repeat' (first | rfl | exact (Bool.or_eq_true _ _).mpr (.inr rfl) | refine (Bool.and_eq_true _ _).mpr ⟨?_, ?_⟩)), _, hlo8, .inl ⟨.inl rfl, nS, ⟨f8.upd (by omega), h77, by omega, fun j hj h1' h2' => by rw [aK _ _ h2', keep8 j (by omega) h2']; exact pp.kp j hj h1' h2', ⟨acc, cells, by rw [aK _ _ (by omega), keep8 _ (by omega) (by omega)]; exact q1, ?_, ?_, q4⟩, sm'⟩, aM _ _ _⟩⟩
        · rw [BB hpk' hk, hth]
          exact q2.aO (fun j q => by rw [aK _ _ (by have := q4 j q; omega), keep8 _ (q2.dL pp.fr q) (by have := q4 j q; omega)])
        · rw [BB hpk' hk, hth]
          exact q3.mono (fun j q => ⟨q.1, by omega, q.2.2⟩) (fun j q => by rw [aK _ _ (by omega), keep8 _ q.2.1 (by omega)])
      | true =>
        simp only [oD, bK, fgr, opd, bQ, put, nth, aJ, Nat.reduceAdd]
        refine ⟨(by (try simp (disch := first | assumption | omega) only [cM, gF]); repeat' (first | rfl | exact (Bool.or_eq_true _ _).mpr (.inr rfl) | refine (Bool.and_eq_true _ _).mpr ⟨?_, ?_⟩)), ?_⟩
        have a8 : At h8 id sv2 S[k] := a2.aO (o8 id (by omega)) (fun j q => o8 j (by have := iv.dn j (d2 j q); omega))
        have cell : Row h8 (n + 1 + 1) [acc] := ⟨_, (keep8 _ (by omega) (by omega)).trans q1⟩
        refine c9 ⟨rfl, ?_⟩
        simp only [gE]
        rw [aZ (cell.one (off := 0) rfl uF rfl)]
        simp only [Nat.reduceAdd, gE]
        rw [aZ (fM a8.row a8.ok)]
        simp only [hkr, Nat.reduceAdd, gE]
        have fo8 : bB (only (fun j => decide (aT sv2 = some j)) h8) n8 := fun j hj => by
          unfold only
          split
          · exact f8 j hj
          · rfl
        refine C8 (fun j => decide (aT sv2 = some j)) f8 (f77 S[k] sv2 a8.ok (only (fun j => decide (aT sv2 = some j)) h8) n8 (a8.s.aO fun j q => iK (decide_eq_true q)) (fun j q => by have := iv.dn j (d2 j q); omega) (ok _ (perm.mem_iff.2 (List.getElem_mem hk))).2 fo8) fun v9 h9 n9 r9 w9 hr9 hn9 f9 ⟨s', e9, b9, i9, o9⟩ hin hout hr hw => ?_
        subst e9
        have old9 : Old h8 h9 n8 := fun j hj => by
          by_cases q : aT sv2 = some j
          · rw [hin j (.inl (decide_eq_true q)), o9 j hj, iK (decide_eq_true q)]
          · exact hout j hj (decide_eq_false q)
        have b9' : Bytes h9 s' S[k].aI := b9.aO (fun j q => hin j (.inr (i9 j q).1))
        simp only [Nat.reduceAdd, U5 (bR a8.ok.h a8.ok.b), gE]
        refine kL eR f9 fun H10 r10 o10 f10 => ?_
        simp only [builtin, Nat.reduceAdd, gE]
        have old10 : Old h8 H10 n8 := fun j hj => by rw [o10 j (by omega), old9 j hj]
        have accl : ∀ j, aT acc = some j → j < n6 := fun j q => q2.dL pp.fr q
        have acck : ∀ j, aT acc = some j → H10 j = h1 j := fun j q => by rw [old10 j (by have := accl j q; omega), keep8 j (accl j q) (by have := q4 j q; omega)]
        have tl := RR S (pos true S (iI aI)) k z
        refine dC f10 (qW (i := eQ.i) (e := 31) (Q1 := fun v' h' n' => n9 + 1 ≤ n' ∧ bB h' n' ∧ Lst h' 31 70 v' ((rN S (pos true S (iI aI)) k z).length + 1) (cells ++ aN S[k] s') ∧ (aT v' = aT acc ∨ aT v' = some (n9 + 1) ∧ n9 + 1 < n') ∧ ∀ j, j < n9 + 1 → aT acc ≠ some j → h' j = H10 j) (q2.aO acck) (nO (cnt := 1) r10 (by rw [bR a8.ok.h a8.ok.b]; rfl)) u43 u43 eR (cU b9.kind.2.1) (by decide) (by show 2 * (_ + 1) * 128 ≤ _; omega) (by omega) f10 (fun v' h' n' a b c d e => ⟨a, b, c, d, e⟩)) fun v11 h11 n11 r11 w11 hn11 f11 ⟨_, _, l11, i11, o11⟩ => ?_
        have o111 : ∀ j, j < n8 → aT acc ≠ some j → j ≠ n + 1 + 1 + 1 + 1 + 1 + 1 → j < n6 → h11 j = h1 j := fun j a b c d => by rw [o11 j (by omega) b, old10 j a, keep8 j d c]
        have c11 : h11 (n + 1 + 1) = some (Blk.row (bI.l [acc]) 43) := (o111 _ (by omega) (fun q => by have := q4 _ q; omega) (by omega) (by omega)).trans q1
        have l11n : ∀ j, j < n9 + 1 → aT acc ≠ some j → aT v11 ≠ some j := fun j hj hn q => by
          rcases i11 with w | ⟨w, _⟩
          · rw [w] at q; exact hn q
          · rw [w] at q; injection q with q; omega
        have nw : n + 1 + 1 ∉ w9 := fun q => by have := iv.dn _ (d2 _ (of_decide_eq_true (hw _ q))); omega
        have nr : n + 1 + 1 ∉ r9 := fun q => by have := iv.dn _ (d2 _ (of_decide_eq_true (hr _ q))); omega
        have v11k := l11.rds.kind
        have v11n : ∀ j, aT v11 = some j → nS ≤ j := fun j q => by
          rcases i11 with w | ⟨w, _⟩
          · rw [w] at q; exact q4 j q
          · rw [w] at q; injection q with q; omega
        simp only [Nat.reduceAdd, gE]
        refine kN (Row.write (v := v11) c11 uF (by rw [v11k.1]; rfl) (by show 0 + 1 ≤ 1; omega) (by rw [v11k.1]; simp [v11k.2.1])) ?_
        rw [v11k.1, show bV [acc] 0 [v11] = [v11] from rfl]
        simp only [oD, bK, fgr, bQ, aJ, Nat.reduceAdd]
        refine ⟨(by (try simp (disch := first | assumption | omega) only [cM, gF]); repeat' (first | rfl | exact (Bool.or_eq_true _ _).mpr (.inr rfl) | refine (Bool.and_eq_true _ _).mpr ⟨?_, ?_⟩)), _, (aK _ _ (by omega)).trans ((o11 _ (by omega) (fun q => by have := q4 _ q; omega)).trans ((old10 _ (by omega)).trans hlo8)), .inl ⟨.inl rfl, nS, ⟨(f11.upd (by omega)).upd (by omega), h77, by omega, fun j hj h1' h2' => ?_, ⟨v11, cells ++ aN S[k] s', by rw [aK _ _ (by omega), aM], ?_, ?_, v11n⟩, sm'⟩, aM _ _ _⟩⟩
        · rw [aK _ _ h2', aK _ _ h1', o111 j (by omega) (fun q => by have := q4 j q; omega) h2' (by omega)]; exact pp.kp j hj h1' h2'
        · rw [BB hpk' hk, hth, if_pos rfl, List.length_append]
          exact l11.aO (fun j q => by rw [aK _ _ (by have := v11n j q; omega), aK _ _ (by have := v11n j q; omega)])
        · rw [BB hpk' hk, hth, if_pos rfl]
          have ne2 : ∀ j, nS ≤ j → ∀ (H : Hp) b b2, upd (upd H (n + 1 + 1) b) (n + 1 + 1 + 1 + 1 + 1 + 1) b2 j = H j := fun j hj H b b2 => by rw [aK _ _ (by omega), aK _ _ (by omega)]
          refine (q3.mono (fun j q => ⟨q.1, by omega, l11n j (by omega) q.2.2⟩) (fun j q => by rw [ne2 j q.1, o111 j (by omega) q.2.2 (by omega) q.2.1])).D8 (b9'.aO fun j q => ?_) a8.ok (fun j q => ⟨by have := i9 j q; omega, by have := i9 j q; omega, l11n j (by have := i9 j q; omega) (fun w => by have := accl j w; have := i9 j q; omega)⟩)
          rw [ne2 j (by have := i9 j q; omega), o11 j (by have := i9 j q; omega) (fun w => by have := accl j w; have := i9 j q; omega), o10 j (by have := i9 j q; omega)]
  · rintro v5 h5 n5 ⟨⟨e5, hh⟩, hn5, f5'⟩
    have fin : ∀ (lo : m9) (nS k : Nat), pos true S (iI aI) ≤ k → P43 H7 n S aI z nS k h5 n5 → (∀ hk : k < S.length, S[k].aI ≠ aI) →
        ∃ acc, Row (upd h5 (n + 1 + 1 + 1 + 1 + 1 + 1) (some (.loop lo))) (n + 1 + 1) [acc] ∧ Old h (upd h5 (n + 1 + 1 + 1 + 1 + 1 + 1) (some (.loop lo))) n ∧ ∃ S k, cP true S ∧ L.Perm S ∧ pos true S (iI aI) ≤ k ∧ (∀ i (hi : i < S.length), pos true S (iI aI) ≤ i → i < k → S[i].aI = aI) ∧ (∀ hk : k < S.length, S[k].aI ≠ aI) ∧ VL (upd h5 (n + 1 + 1 + 1 + 1 + 1 + 1) (some (.loop lo))) n n5 acc (rN S (pos true S (iI aI)) k z) := by
      intro lo nS k hk1 p hk3
      obtain ⟨acc, cells, c1, c2, c3, c4⟩ := p.cl
      have h7 := p.n7
      refine ⟨acc, ⟨_, (aK _ _ (by omega)).trans c1⟩, fun j hj => ?_, S, k, rS, perm, hk1, p.sm, hk3, cells, c2.aO (fun j q => aK _ _ (by have := c4 j q; omega)), c3.mono (fun j q => ⟨by omega, q.2.1, q.2.2⟩) (fun j q => aK _ _ (by omega)), fun j q => ⟨by have := c4 j q; omega, c2.dL p.fr q⟩⟩
      rw [aK _ _ (by omega), lt j hj h5 p.kp, old7 j hj]
    rcases hh with ⟨nS, p, hlo⟩ | ⟨l, nS, k, hlo, hst, hpe, hk1, p, hk3⟩
    · refine ⟨_, hlo, (fun q => by cases q), .normal, rfl, ?_⟩
      obtain ⟨acc, hrow, res⟩ := fin { L43 TM with state := .exhausted } nS S.length (WX _ _ _) p (fun hk => absurd hk (Nat.lt_irrefl _))
      simp only [gE]
      rw [aH (hrow.one (off := 0) rfl uF rfl)]
      simp only [fgr, gE]
      exact res
    · refine ⟨_, hlo, (fun q => by rw [hst] at q; cases q), .exit 0, by rw [hpe], ?_⟩
      obtain ⟨acc, hrow, res⟩ := fin { l with state := .exhausted } nS k hk1 p hk3
      simp only [gE]
      rw [aH (hrow.one (off := 0) rfl uF rfl)]
      simp only [fgr, gE]
      exact res
theorem xB {o : Bool} : ∀ {A B : List Ver}, cP o A → cP o B → A.Perm B → A = B
  | [], B, _, _, h => (List.nil_perm.1 h).symm
  | a :: A, [], _, _, h => absurd (List.perm_nil.1 h) (by simp)
  | a :: A, b :: B, ra, rb, h => by
    have ha := List.pairwise_cons.1 ra
    have hb := List.pairwise_cons.1 rb
    have e : a = b := by
      by_cases q : a = b
      · exact q
      · have h1 : a ∈ B := (List.mem_cons.1 (h.mem_iff.1 List.mem_cons_self)).resolve_left q
        have h2 : b ∈ A := (List.mem_cons.1 (h.mem_iff.2 List.mem_cons_self)).resolve_left (fun w => q w.symm)
        have c1 := ha.1 b h2
        have c2 := hb.1 a h1
        have := (BH o).pW a b
        omega
    subst e
    rw [xB ha.2 hb.2 ((List.perm_cons a).1 h)]
def U0 (a b : Ver) : Int := CI a.aP a.pn b.aP b.pn
theorem aB6 : oN U0 := (qF.on Ver.aP).or (sV.on Ver.pn)
theorem sQ {aP : List UInt8} {pn : Int} {v : Ver} : same aP pn v = true ↔ CI v.aP v.pn aP pn = 0 := by
  unfold same CI orI
  constructor
  · intro h
    simp only [Bool.and_eq_true, decide_eq_true_eq, beq_iff_eq] at h
    rw [h.1, h.2, if_pos (oH _)]
    exact mI.2 rfl
  · intro h
    split at h
    · rename_i q
      rw [AT _ _ q, mI.1 h]
      simp
    · contradiction
def atV (L : List Ver) (aP : List UInt8) (pn z : Int) : Option Ver := (L.filter fun v => same aP pn v && cI v z).getLast?
def zR (v : Ver) : Prop := vV v = false ∧ 0 ≤ v.pn
theorem zR.made {v : Ver} (h : zR v) : 0 ≤ v.made := by
  have := h.1
  unfold vV at this
  simp only [Bool.or_eq_false_iff, decide_eq_false_iff_not] at this
  omega
theorem HX {a b : Int} (h : orI a b < 0) : a ≤ 0 := by
  unfold orI at h
  split at h <;> omega
theorem N7 {a b : Int} (h : ¬ orI a b < 0) (hn : a ≠ 0) : 0 < a := by
  unfold orI at h
  rw [if_neg hn] at h
  omega
theorem am0 {o : Ver → Ver → Int} (q : oN o) {a b t : Ver} (h1 : 0 < o a t) (h2 : o a b ≤ 0) : 0 < o b t := by
  have e1 := q.pW a t
  have e2 := q.pW b t
  rcases Int.lt_or_eq_of_le h2 with w | w
  · have := q.lt t a b (by omega) w; omega
  · have := q.eqr (d := t) w; omega
theorem yH {L : List Ver} {p k : Nat} (hpk : p ≤ k) (P th : Ver → Bool) (h1 : ∀ i (hi : i < L.length), i < p → P L[i] = false) (h2 : ∀ i (hi : i < L.length), p ≤ i → i < k → P L[i] = true) (h3 : ∀ i (hi : i < L.length), k ≤ i → P L[i] = false) :
    ((L.take k).drop p).filter th = L.filter fun v => P v && th v := by
  have e : L = L.take p ++ ((L.take k).drop p ++ L.drop k) := by
    rw [← List.append_assoc]
    have : L.take p = (L.take k).take p := by rw [List.take_take, Nat.min_eq_left hpk]
    rw [this, List.take_append_drop, List.take_append_drop]
  conv => rhs; rw [e]
  rw [List.filter_append, List.filter_append]
  have f1 : (L.take p).filter (fun v => P v && th v) = [] := by
    rw [List.filter_eq_nil_iff]
    intro a ha
    obtain ⟨i, hi, rfl⟩ := List.mem_iff_getElem.1 ha
    rw [List.length_take] at hi
    rw [List.getElem_take, h1 i (by omega) (by omega)]
    simp
  have f3 : (L.drop k).filter (fun v => P v && th v) = [] := by
    rw [List.filter_eq_nil_iff]
    intro a ha
    obtain ⟨i, hi, rfl⟩ := List.mem_iff_getElem.1 ha
    rw [List.length_drop] at hi
    rw [List.getElem_drop, h3 (k + i) (by omega) (by omega)]
    simp
  rw [f1, f3, List.append_nil, List.nil_append]
  refine List.filter_congr fun a ha => ?_
  obtain ⟨i, hi, rfl⟩ := List.mem_iff_getElem.1 ha
  rw [List.length_drop, List.length_take] at hi
  have q := h2 (p + i) (by omega) (by omega) (by omega)
  rw [List.getElem_drop, List.getElem_take, q, Bool.true_and]
theorem ag4 {L : List Ver} {aP : List UInt8} {pn : Int} {k : Nat} (r : cP false L) (g : ∀ v ∈ L, zR v) (hk : pos false L (key aP pn 0) ≤ k)
    (sm : ∀ i (hi : i < L.length), pos false L (key aP pn 0) ≤ i → i < k → same aP pn L[i] = true) (ne : ∀ hk : k < L.length, same aP pn L[k] = false) (th : Ver → Bool) :
    ((L.take k).drop (pos false L (key aP pn 0))).filter th = L.filter fun v => same aP pn v && th v := by
  have P := nQ r (key aP pn 0)
  have nn : ∀ i (hi : i < L.length), pos false L (key aP pn 0) ≤ i → same aP pn L[i] = false → 0 < U0 L[i] (key aP pn 0) := fun i hi h1 h2 =>
    N7 (P.hi i hi h1) fun q => by have w : same aP pn L[i] = true := sQ.2 q; rw [w] at h2; cases h2
  refine yH hk _ _ (fun i hi h => ?_) sm (fun i hi h => ?_)
  · cases hs : same aP pn L[i] with
    | false => rfl
    | true =>
      have h0 := P.lo i hi h
      have h1 : CI L[i].aP L[i].pn aP pn = 0 := sQ.1 hs
      have h2 : eO L[i] (key aP pn 0) = iY L[i].made 0 := by
        show orI (CI L[i].aP L[i].pn aP pn) _ = _
        rw [h1]; rfl
      have h3 := (g _ (List.getElem_mem hi)).made
      have h4 : eO L[i] (key aP pn 0) < 0 := h0
      rw [h2, qN] at h4
      omega
  · have hkl : k < L.length := by omega
    have h1 := nn k hkl hk (ne hkl)
    have h2 : 0 < U0 L[i] (key aP pn 0) := by
      by_cases q : i = k
      · subst q; exact h1
      · exact am0 aB6 h1 (HX (r.at_ hkl hi (by omega)))
    cases hs : same aP pn L[i] with
    | false => rfl
    | true =>
      have : U0 L[i] (key aP pn 0) = 0 := sQ.1 hs
      omega
theorem az0 {L : List Ver} {aP : List UInt8} {pn z : Int} {k : Nat} (r : cP false L) (g : ∀ v ∈ L, zR v) (hk : pos false L (key aP pn 0) ≤ k)
    (sm : ∀ i (hi : i < L.length), pos false L (key aP pn 0) ≤ i → i < k → same aP pn L[i] = true) (ne : ∀ hk : k < L.length, same aP pn L[k] = false) :
    fnd L (pos false L (key aP pn 0)) k z = atV L aP pn z := by
  unfold fnd atV
  rw [ag4 r g hk sm ne]
theorem EM : ∀ (l : List UInt8), ¬ Lib.compareBytes l (List.replicate l.length 0) < 0
  | [] => by decide
  | a :: l => by
    rw [List.length_cons, List.replicate_succ]
    unfold Lib.compareBytes
    have h1 : ¬ a < 0 := by simp [UInt8.lt_iff_toNat_lt]
    rw [if_neg h1]
    split
    · omega
    · exact EM l
theorem am4 {v : Ver} {aI : List UInt8} (o : v.Ok) (g : zR v) (hs : v.aI = aI) : ¬ GO v (iI aI) < 0 := by
  have e1 : GO v (iI aI) = eO v (iI aI) := by
    show orI (Lib.compareBytes v.aI aI) _ = _
    rw [hs, oH]; rfl
  rw [e1]
  have e2 : eO v (iI aI) = orI (orI (Lib.compareBytes v.aP (List.replicate 32 0)) (iY v.pn 0)) (iY v.made 0) := rfl
  rw [e2]
  have z := EM v.aP
  rw [o.h] at z
  have m := g.made
  have p := g.2
  have n1 : ¬ iY v.pn 0 < 0 := by rw [qN]; omega
  have n2 : ¬ iY v.made 0 < 0 := by rw [qN]; omega
  unfold orI
  split
  · split
    · exact n2
    · exact n1
  · exact z
def ofV (L : List Ver) (aI : List UInt8) (z : Int) : List Ver := L.filter fun v => (v.aI == aI) && cI v z
theorem of_eq {L S : List Ver} {aI : List UInt8} {z : Int} {k : Nat} (rL : cP false L) (rS : cP true S) (perm : L.Perm S) (ok : ∀ v ∈ L, v.Ok) (g : ∀ v ∈ L, zR v) (hk : pos true S (iI aI) ≤ k)
    (sm : ∀ i (hi : i < S.length), pos true S (iI aI) ≤ i → i < k → S[i].aI = aI) (ne : ∀ hk : k < S.length, S[k].aI ≠ aI) :
    rN S (pos true S (iI aI)) k z = ofV L aI z := by
  have P := nQ rS (iI aI)
  have BI : oN (fun a b : Ver => Lib.compareBytes a.aI b.aI) := qF.on Ver.aI
  have e1 : rN S (pos true S (iI aI)) k z = S.filter fun v => (v.aI == aI) && cI v z := by
    refine yH hk (fun v => v.aI == aI) _ (fun i hi h => ?_) (fun i hi h1 h2 => beq_iff_eq.2 (sm i hi h1 h2)) (fun i hi h => ?_)
    · cases hs : (S[i].aI == aI) with
      | false => rfl
      | true =>
        have hm := perm.mem_iff.2 (List.getElem_mem hi)
        exact absurd (P.lo i hi h) (am4 (ok _ hm) (g _ hm) (beq_iff_eq.1 hs))
    · have hkl : k < S.length := by omega
      have h1 : 0 < Lib.compareBytes S[k].aI (iI aI).aI := N7 (P.hi k hkl hk) fun q => ne hkl (AT _ _ q)
      have h2 : 0 < Lib.compareBytes S[i].aI (iI aI).aI := by
        by_cases q : i = k
        · subst q; exact h1
        · exact am0 (o := fun a b : Ver => Lib.compareBytes a.aI b.aI) (t := iI aI) BI h1 (HX (rS.at_ hkl hi (by omega)))
      rw [beq_eq_false_iff_ne]
      intro hs
      rw [hs] at h2
      have : Lib.compareBytes aI (iI aI).aI = 0 := oH aI
      omega
  rw [e1]
  refine xB (o := false) ?_ (rL.sublist List.filter_sublist) (perm.symm.filter _)
  refine (List.Pairwise.filter _ rS).imp_of_mem fun {a b} ha hb hab => ?_
  have s1 := (List.mem_filter.1 ha).2
  have s2 := (List.mem_filter.1 hb).2
  simp only [Bool.and_eq_true, beq_iff_eq] at s1 s2
  have : orI (Lib.compareBytes a.aI b.aI) (eO a b) < 0 := hab
  rw [s1.1, s2.1, oH] at this
  exact this
structure Ixk (K : Nat → Prop) (h : Hp) (n x : Nat) (L : List Ver) : Prop where
  ix : ∃ D M, Ix h n D M x L ∧ ∀ j, K j → j < n ∧ ¬ M j ∧ ¬ D j
  g : ∀ v ∈ L, zR v
theorem Ixk.rL {K : Nat → Prop} {h : Hp} {n x : Nat} {L : List Ver} (s : Ixk K h n x L) : cP false L := by
  obtain ⟨⟨D, M, i, _⟩, _⟩ := s
  exact i.r
theorem Ixk.k {K : Nat → Prop} {h : Hp} {n x : Nat} {L : List Ver} (s : Ixk K h n x L) {j : Nat} (hj : K j) : j < n := by
  obtain ⟨⟨D, M, i, q⟩, _⟩ := s
  exact (q j hj).1
theorem Ixk.sub {K K' : Nat → Prop} {h : Hp} {n x : Nat} {L : List Ver} (s : Ixk K h n x L) (hk : ∀ j, K' j → K j) : Ixk K' h n x L := by
  obtain ⟨⟨D, M, i, q⟩, g⟩ := s
  exact ⟨⟨D, M, i, fun j hj => q j (hk j hj)⟩, g⟩
theorem Ixk.tH {K : Nat → Prop} {h h' : Hp} {n n' x : Nat} {L : List Ver} (s : Ixk K h n x L) (hn : n ≤ n') (ho : Old h h' n) : Ixk (fun j => K j ∨ (n ≤ j ∧ j < n')) h' n' x L := by
  obtain ⟨⟨D, M, i, q⟩, g⟩ := s
  refine ⟨⟨D, M, i.old hn ho, fun j hj => ?_⟩, g⟩
  rcases hj with hj | hj
  · exact ⟨by have := (q j hj).1; omega, (q j hj).2⟩
  · obtain ⟨⟨S, ⟨vl, vs, xl, xs, iv, mx, ml, ms, mn⟩, _⟩, _⟩ := i
    exact ⟨hj.2, fun w => by have := (mn j w).1; omega, fun w => by have := iv.dn j w; omega⟩
theorem Ixk.old {K : Nat → Prop} {h h' : Hp} {n n' x : Nat} {L : List Ver} (s : Ixk K h n x L) (hn : n ≤ n') (ho : Old h h' n) : Ixk K h' n' x L := (s.tH hn ho).sub fun j q => .inl q
theorem Ix.xlt {h : Hp} {n x : Nat} {D M : Nat → Prop} {L : List Ver} (i : Ix h n D M x L) : x < n := by
  obtain ⟨⟨S, ⟨vl, vs, xl, xs, iv, _⟩, _⟩, _⟩ := i
  exact iv.xn
theorem Chg.k {K : Nat → Prop} {h h' : Hp} {n n' : Nat} {D M D' M' : Nat → Prop} (c : Chg h n D M h' n' D' M') (q : ∀ j, K j → j < n ∧ ¬ M j ∧ ¬ D j) : (∀ j, K j → h' j = h j) ∧ ∀ j, K j → j < n' ∧ ¬ M' j ∧ ¬ D' j := by
  refine ⟨fun j hj => c.old j (q j hj).1 (q j hj).2.1, fun j hj => ⟨by have := (q j hj).1; have := c.nx; omega, fun w => ?_, fun w => ?_⟩⟩
  · have := q j hj
    rcases c.m' j w with w | w
    · exact this.2.1 w
    · omega
  · have := q j hj
    rcases c.d' j w with w | w
    · exact this.2.2 w
    · omega
theorem xF {L : List Ver} {v w : Ver} : w ∈ kW L v ↔ w = v ∨ w ∈ L := DT
theorem xG (L : List Ver) (v : Ver) : (kW L v).length = L.length + 1 := (uO _ _ _).length_eq.trans rfl
theorem KJ {L : List Ver} {v w : Ver} (h : w ∈ kV L v) : w ∈ L := CE h
theorem AS {w : Ver} {aP : List UInt8} {pn made : Int} (h : eO w (key aP pn made) = 0) : w.aP = aP ∧ w.pn = pn ∧ w.made = made := by
  have e : eO w (key aP pn made) = orI (CI w.aP w.pn aP pn) (iY w.made made) := rfl
  rw [e] at h
  unfold orI at h
  split at h
  · rename_i q
    have s := sQ.2 q
    unfold same at s
    simp only [Bool.and_eq_true, decide_eq_true_eq, beq_iff_eq] at s
    exact ⟨s.1, s.2, mI.1 h⟩
  · contradiction
theorem C3 (w : Ver) : eO w (key w.aP w.pn w.made) = 0 := by
  have e : eO w (key w.aP w.pn w.made) = eO w w := rfl
  rw [e]; exact p9.refl w
def nL (L : List Ver) (w v : Ver) : List Ver := L.set (pos false L w) v
theorem IH {L : List Ver} {w : Ver} (r : cP false L) (hw : w ∈ L) (s : Int) (b : List UInt8) : kW (kV L w) (fT w s b) = nL L w (fT w s b) := N0 r hw (p9.refl w)
theorem sP {L : List Ver} {w v u : Ver} (h : u ∈ nL L w v) : u = v ∨ u ∈ L := (List.mem_or_eq_of_mem_set h).symm
theorem wY (L : List Ver) (w v : Ver) : (nL L w v).length = L.length := List.length_set
theorem AR {w : Ver} (g : zR w) {s : Int} {b : List UInt8} (h : s = 0 ∨ (1 ≤ s ∧ w.made ≤ s)) : zR (fT w s b) := by
  have m := g.made
  refine ⟨?_, g.2⟩
  unfold vV fT
  simp only [Bool.or_eq_false_iff, decide_eq_false_iff_not, Bool.and_eq_false_iff]
  omega
theorem aW6 {K : Nat → Prop} {x : Nat} {L : List Ver} {h : Hp} {n : Nat} (hs : Ixk K h n x L) (hc : L.length ≤ 900000) (hf : bB h n) :
    Wp (aQ env (aE env) 32 [.ptr x 0]) h n fun v' h' n' => VL h' n n' v' L ∧ Old h h' n := by
  obtain ⟨⟨D, M, i, q⟩, g⟩ := hs
  exact f32 x L D M h n i (by omega) hf
theorem aW1 {K : Nat → Prop} {x : Nat} (z : Int) {L : List Ver} {h : Hp} {n : Nat} (hs : Ixk K h n x L) (hc : L.length ≤ 900000) (hf : bB h n) :
    Wp (aQ env (aE env) 39 [.ptr x 0, .int .i64 z]) h n fun v' h' n' => VL h' n n' v' (L.filter fun v => cI v z) ∧ Old h h' n := by
  obtain ⟨⟨D, M, i, q⟩, g⟩ := hs
  exact f39 x z L D M h n i (by omega) hf
def noV : Ver := ⟨List.replicate 32 0, 0, 0, 0, [], false, 0, List.replicate 32 0⟩
theorem YJ : noV.Ok := ⟨rfl, rfl⟩
theorem az5 : eQ.i.zero.cells = aN noV .aL := rfl
theorem aw7 {K : Nat → Prop} {x : Nat} (aP : List UInt8) (pn z : Int) (hl : aP.length = 32) {L : List Ver} {h : Hp} {n : Nat} (hs : Ixk K h n x L) (hc : L.length ≤ 900000) (hf : bB h n) :
    Wp (aQ env (aE env) 37 [.ptr x 0, .agg (aV aP pn), .int .i64 z]) h n fun v' h' n' => Old h h' n ∧ ∃ s', v' = .tup [.agg (aN ((atV L aP pn z).getD noV) s'), .bool (atV L aP pn z).isSome] ∧ ((atV L aP pn z).getD noV).Ok ∧ Bytes h' s' ((atV L aP pn z).getD noV).aI ∧ ∀ j, aT s' = some j → n ≤ j ∧ j < n' := by
  have rL := hs.rL
  obtain ⟨⟨D, M, i, q⟩, g⟩ := hs
  have ok := i.ok
  refine cN (f37 x aP pn z hl L D M h n i (by omega) hf) fun v' h' n' ⟨o, k, hk, sm, ne, hh⟩ => ⟨o, ?_⟩
  rw [az0 rL g hk sm ne] at hh
  rcases hh with ⟨e, hv⟩ | ⟨w, s', e, hv, hw, b, hj⟩
  · exact ⟨.aL, by rw [hv, e, az5]; rfl, by rw [e]; exact YJ, by rw [e]; exact .aL, fun j q => by cases q⟩
  · exact ⟨s', by rw [hv, e]; rfl, by rw [e]; exact (ok w hw).1, by rw [e]; exact b, hj⟩
theorem aW0 {K : Nat → Prop} {x : Nat} (sv : a9) (aI : List UInt8) (z : Int) {L : List Ver} {h : Hp} {n : Nat} (hs : Ixk K h n x L) (hb : Bytes h sv aI) (hsn : ∀ j, aT sv = some j → j < n) (hc : L.length ≤ 900000) (hf : bB h n) :
    Wp (aQ env (aE env) 43 [.ptr x 0, sv, .int .i64 z]) h n fun v' h' n' => VL h' n n' v' (ofV L aI z) ∧ Old h h' n := by
  have rL := hs.rL
  obtain ⟨⟨D, M, i, q⟩, g⟩ := hs
  have ok := i.ok
  refine cN (f43 x sv aI z L D M h n i hb hsn (by omega) hf) fun v' h' n' ⟨o, S, k, rS, perm, hk, sm, ne, v⟩ => ⟨?_, o⟩
  rwa [of_eq rL rS perm (fun v hv => (ok v hv).1) g hk sm ne] at v
def z0 : List UInt8 := List.replicate 32 0
def b9 : List UInt8 := 9 :: List.replicate 31 0
theorem k5 : Try.prog.cellsOf 5 = 1 := by kernel_rfl
theorem k2 : Try.prog.cellsOf 2 = 1 := by kernel_rfl
theorem k3 : Try.prog.cellsOf 3 = 1 := by kernel_rfl
theorem k4 : Try.prog.cellsOf 4 = 1 := by kernel_rfl
theorem k25 : Try.prog.cellsOf 25 = 32 := by kernel_rfl
theorem k26 : Try.prog.cellsOf 26 = 1 := by kernel_rfl
theorem k28 : Try.prog.cellsOf 28 = 33 := by kernel_rfl
theorem k29 : Try.prog.cellsOf 29 = 1 := by kernel_rfl
theorem k31 : Try.prog.cellsOf 31 = 70 := by kernel_rfl
theorem ah8 (b : UInt8) : iR (u8 b) = b := by simp [iR, u8]
theorem tY {vs : List a9} (ha : Arg Try.prog 25 vs) : ∃ l : List UInt8, vs = l.map u8 ∧ l.length = 32 := by
  obtain ⟨hl, he⟩ := ha.KT Try.underlying25
  rw [k25] at hl
  refine ⟨vs.map iR, ?_, by simpa using hl⟩
  rw [List.map_map]
  refine List.ext_getElem (by simp) fun i h1 h2 => ?_
  have q := he i (by omega)
  rw [k5, Nat.mul_one] at q
  obtain ⟨z, e, hw⟩ := q.cF Try.underlying5
  have e' : vs[i] = .int .u8 z := by
    have : ((vs.drop i).take 1)[0]? = some vs[i] := by simp [List.getElem?_drop, h1]
    rw [e] at this
    simpa using this.symm
  rw [List.getElem_map, Function.comp, e']
  have : a9.int .u8 z = u8 (byteOf z) := by rw [u8, AV hw]
  rw [this, ah8]
theorem mM (vs : List a9) (a k : Nat) : vs.drop a = (vs.drop a).take k ++ vs.drop (a + k) := by
  rw [← List.drop_drop, List.take_append_drop]
theorem B2 {vs : List a9} (ha : Arg Try.prog 28 vs) : ∃ (aP : List UInt8) (pn : Int), vs = aV aP pn ∧ aP.length = 32 ∧ 0 ≤ pn := by
  obtain ⟨hl, he⟩ := ha.lH Try.underlying28
  rw [k28] at hl
  have q0 : Arg Try.prog 25 ((vs.drop 0).take (Try.prog.cellsOf 25)) := he 0 _ rfl
  have q1 : Arg Try.prog 26 ((vs.drop 32).take (Try.prog.cellsOf 26)) := he 1 _ rfl
  rw [k25] at q0
  rw [k26] at q1
  obtain ⟨aP, e0, hh⟩ := tY q0
  obtain ⟨pn, e1, hw⟩ := q1.cF Try.underlying26
  refine ⟨aP, pn, ?_, hh, ?_⟩
  · have c0 := mM vs 0 32
    have c1 := mM vs (0 + 32) 1
    rw [List.drop_zero] at c0
    rw [List.drop_zero] at e0
    rw [e0, c1, e1, List.drop_eq_nil_of_le (show vs.length ≤ 0 + 32 + 1 by omega)] at c0
    rw [c0]; rfl
  · simp only [Lit.wf, Bool.and_eq_true, decide_eq_true_eq] at hw
    exact hw.1
structure HE (v : Ver) (sv : a9) : Prop where
  ok : v.Ok
  pn : 0 ≤ v.pn
  s : F0 sv v.aI
  sl : v.aI.length ≤ maxLen
  m : (Lit.int .i64 v.made).wf = true
theorem UG {vs : List a9} (ha : Arg Try.prog 31 vs) : ∃ v sv, vs = aN v sv ∧ HE v sv := by
  obtain ⟨hl, he⟩ := ha.lH Try.underlying31
  rw [k31] at hl
  have q0 : Arg Try.prog 28 ((vs.drop 0).take (Try.prog.cellsOf 28)) := he 0 _ rfl
  have q1 : Arg Try.prog 3 ((vs.drop 33).take (Try.prog.cellsOf 3)) := he 1 _ rfl
  have q2 : Arg Try.prog 2 ((vs.drop 34).take (Try.prog.cellsOf 2)) := he 2 _ rfl
  have q3 : Arg Try.prog 29 ((vs.drop 35).take (Try.prog.cellsOf 29)) := he 3 _ rfl
  have q4 : Arg Try.prog 4 ((vs.drop 36).take (Try.prog.cellsOf 4)) := he 4 _ rfl
  have q5 : Arg Try.prog 3 ((vs.drop 37).take (Try.prog.cellsOf 3)) := he 5 _ rfl
  have q6 : Arg Try.prog 25 ((vs.drop 38).take (Try.prog.cellsOf 25)) := he 6 _ rfl
  rw [k28] at q0
  rw [k3] at q1 q5
  rw [k2] at q2
  rw [k29] at q3
  rw [k4] at q4
  rw [k25] at q6
  obtain ⟨aP, pn, e0, hh, hp⟩ := B2 q0
  obtain ⟨made, e1, w1⟩ := q1.cF Try.underlying3
  obtain ⟨value, e2, w2⟩ := q2.cF Try.underlying2
  have e3 : ∃ sv, (vs.drop 35).take 1 = [sv] := by
    have : ((vs.drop 35).take 1).length = 1 := by simp; omega
    exact List.length_eq_one_iff.1 this
  obtain ⟨sv, e3⟩ := e3
  rw [e3] at q3
  obtain ⟨aI, hb, hbl⟩ := KU Try.underlying29 Try.underlying5 k5 q3
  obtain ⟨dH, e4⟩ := q4.iJ Try.underlying4
  obtain ⟨c8, e5, w5⟩ := q5.cF Try.underlying3
  obtain ⟨by_, e6, hby⟩ := tY q6
  refine ⟨⟨aP, pn, made, value, aI, dH, c8, by_⟩, sv, ?_, ⟨⟨hh, hby⟩, hp, hb, hbl, w1⟩⟩
  have c0 := mM vs 0 33
  rw [List.drop_zero] at c0
  rw [List.drop_zero] at e0
  rw [e0, mM vs (0 + 33) 1, e1, mM vs (0 + 33 + 1) 1, e2, mM vs (0 + 33 + 1 + 1) 1, e3, mM vs (0 + 33 + 1 + 1 + 1) 1, e4, mM vs (0 + 33 + 1 + 1 + 1 + 1) 1, e5, mM vs (0 + 33 + 1 + 1 + 1 + 1 + 1) 32, e6, List.drop_eq_nil_of_le (show vs.length ≤ 0 + 33 + 1 + 1 + 1 + 1 + 1 + 32 by omega)] at c0
  rw [c0]
  simp [aN, mP]
structure OpI where
  kind : Int
  v : Ver
  at_ : Int
theorem CG (f : Nat → a9) (o n : Nat) : (cut f o n).length = n := by simp [cut]
theorem tU (f : Nat → a9) (o n : Nat) {j : Nat} (h : j < (cut f o n).length) : (cut f o n)[j] = f (o + j) := by simp [cut]
theorem CF (f : Nat → a9) (o n a b : Nat) (h : a + b ≤ n) : ((cut f o n).drop a).take b = cut f (o + a) b := by
  refine List.ext_getElem (by simp [cut]; omega) fun i h1 h2 => ?_
  rw [List.getElem_take, List.getElem_drop, tU, tU, Nat.add_assoc]
theorem vF {xs ys : List a9} {a b i : Nat} (h : (xs.drop a).take b = ys) (hi : i < b) : xs[a + i]? = ys[i]? := by
  rw [← h, List.getElem?_take, if_pos hi, List.getElem?_drop]
section
variable {h : Hp} {n id : Nat} {o : OpI} {sv : a9}
end
theorem MC {L : List Ver} (r : cP false L) {w : Ver} (hw : w ∈ L) (v : Ver) : nL L w v = L.map fun u => if eO u w = 0 then v else u := by
  obtain ⟨hp, hpw⟩ := nR r (nQ r w) hw
  unfold nL
  refine List.ext_getElem (by simp) fun i h1 h2 => ?_
  rw [List.getElem_set, List.getElem_map]
  have hi : i < L.length := by simpa using h1
  by_cases c : pos false L w = i
  · subst c
    rw [if_pos rfl, if_pos (by rw [hpw]; exact p9.refl w)]
  · rw [if_neg c, if_neg fun q => ?_]
    have := kE r (List.getElem_mem hi) hw q
    rcases Nat.lt_trichotomy (pos false L w) i with d | d | d
    · have q2 := r.at_ hp hi d
      rw [hpw, this] at q2
      have := p9.refl w
      have : eO w w < 0 := q2
      omega
    · exact c d
    · have q2 := r.at_ hi hp d
      rw [hpw, this] at q2
      have := p9.refl w
      have : eO w w < 0 := q2
      omega
theorem VL.aO {h h' : Hp} {a b : Nat} {v : a9} {vs : List Ver} (l : VL h a b v vs) (hk : ∀ j, a ≤ j → j < b → h' j = h j) : VL h' a b v vs := by
  obtain ⟨cells, c1, c2, c3⟩ := l
  exact ⟨cells, c1.aO fun j q => hk j (c3 j q).1 (c3 j q).2, c2.mono (fun j q => q) (fun j q => hk j q.1 q.2.1), c3⟩
theorem VL.old {h h' : Hp} {a b n : Nat} {v : a9} {vs : List Ver} (l : VL h a b v vs) (hn : b ≤ n) (hk : Old h h' n) : VL h' a b v vs := l.aO fun j _ q => hk j (by omega)
structure VAt (h : Hp) (a b : Nat) (v : a9) (k : Nat) (w : Ver) (sw : a9) : Prop where
  ok : w.Ok
  all : ∀ n, Rd (load env 31 (dM k v)) h n (rid v) (.agg (aN w sw))
  pt : ∀ n, Rd (load env 28 (dM k v)) h n (rid v) (.agg (aV w.aP w.pn))
  made : ∀ n, Rd (load env 3 (dM (k + 33) v)) h n (rid v) (.int .i64 w.made)
  c8 : ∀ n, Rd (load env 3 (dM (k + 37) v)) h n (rid v) (.int .i64 w.c8)
  aI : ∀ n, Rd (load env 29 (dM (k + 35) v)) h n (rid v) sw
  mv : ∀ k m, aR m (dM k v) = M.pure (dM (k + m) v)
  s : Bytes h sw w.aI
  sn : ∀ j, aT sw = some j → a ≤ j ∧ j < b
theorem VL.at_ {h : Hp} {a b : Nat} {v : a9} {vs : List Ver} (l : VL h a b v vs) {i : Nat} (hi : i < vs.length) : ∃ sw, VAt h a b v (i * 70) vs[i] sw := by
  obtain ⟨cells, c1, c2, c3⟩ := l
  obtain ⟨sw, e, bs, o, d⟩ := c2.at_ i hi
  have hr := c1.rds
  have hl : i * 70 + 70 ≤ cells.length := by rw [c2.len]; omega
  have one : ∀ k x, k < 70 → (aN vs[i] sw)[k]? = some x → cells[i * 70 + k]? = some x := fun k x hk hx => by rw [vF e hk, hx]
  refine ⟨sw, o, fun n => ?_, fun n => ?_, fun n => hr.load ti3 rfl (one 33 _ (by omega) (kB o.h 0)), fun n => hr.load ti3 rfl (one 37 _ (by omega) (kB o.h 4)), fun n => hr.load vP rfl (one 35 _ (by omega) (kB o.h 2)), fun k m => iL hr (by omega) k m, bs, fun j q => ⟨(d j q).1, (d j q).2.1⟩⟩
  · have := hr.agg (E := env) (n := n) (k := i * 70) eR rfl (by decide) hl
    have e' : (cells.drop (i * 70)).take 70 = aN vs[i] sw := e
    exact e' ▸ this
  · have := hr.agg (E := env) (n := n) (k := i * 70) jJ rfl (by decide) (by show i * 70 + 33 ≤ _; omega)
    have e' : (cells.drop (i * 70)).take 33 = aV vs[i].aP vs[i].pn := by
      rw [← wT (sv := sw) o.h, ← e, List.take_take]; rfl
    exact e' ▸ this
theorem VL.len {h : Hp} {a b : Nat} {v : a9} {vs : List Ver} (l : VL h a b v vs) {ts : List TypeId} : cA env (43 :: ts) v = M.pure (.int .i64 (vs.length : Nat)) := by
  obtain ⟨cells, c1, c2, c3⟩ := l
  exact c1.rds.cA u43
theorem VL.idx {h : Hp} {a b : Nat} {v : a9} {vs : List Ver} (l : VL h a b v vs) {i : Nat} (hi : i < vs.length) {h' : Hp} {n' : Nat} : Rd (indexAddr env 43 v (.int .i64 ((i : Nat) : Int))) h' n' [] (dM (i * 70) v) := by
  obtain ⟨cells, c1, c2, c3⟩ := l
  exact c1.rds.idx u43 V8 rfl hi
def b1 : List UInt8 := 1 :: List.replicate 31 0
theorem jO {α : Type} {l : List α} {i : Nat} (h : i < l.length) : l.take (i + 1) = l.take i ++ [l[i]] := by
  rw [List.take_add_one, List.getElem?_eq_getElem h]; rfl
theorem t128 : ti env 128 = M.pure ⟨.pointer 31, 1, 8, .cY⟩ := iO
theorem KX {h : Hp} {n b cnt : Nat} {v : a9} {xs : List a9} (hb : h b = some (.row (.l []) 128)) (hv : Rds h 1 v cnt xs) (h1 : xs.all bC = true) (hc : cnt ≤ 1000000) (hf : bB h n) :
    Wp (eY env [95, 95] (.sl b 0 0 (some 0) 1) v) h n fun v' h' n' => (cnt = 0 ∧ v' = .sl b 0 0 (some 0) 1 ∧ h' = h ∧ n' = n) ∨ (0 < cnt ∧ v' = .sl n 0 cnt none 1 ∧ h' = upd h n (some (.row (.l xs) 128)) ∧ n' = n + 1) := by
  simp only [eY, u95, aD, rW, append, t128, hv.len, fX]
  by_cases hk : cnt = 0
  · subst hk
    rw [Nat.beq_refl]
    exact aS.2 (.inl ⟨rfl, rfl, rfl, rfl⟩)
  have hk0 : cnt.beq 0 = false := jW hk
  simp only [hk0]
  refine eK hv.cells ?_
  have r1 : ((2 * cnt * 8).ble room && cnt.ble room) = true := by
    unfold room
    rw [cQ (by omega), cQ (by omega)]; rfl
  have e0 : (0 + cnt).ble 0 = false := gO (by omega)
  have sc : cJ 1 0 (.sl b 0 0 (some 0) 1) = (eI b).bind (eG fun c _ => (ob ((0 + 0 * 1).ble c.size)).bind fun _ => M.pure (c.sub 0 (0 * 1))) := rfl
  simp only [cB, eU, hb, Option.some.injEq, exists_eq_left', eG, fX, e0]
  refine eK (a := []) ((Rds.sl (sz := 1) b 0 0 (some 0) (.l []) 128 [] hb rfl (by simp) (fun j hj => by simp at hj)).cells) ?_
  simp only [hO, eP, fW, aS, r1, true_and, Nat.zero_add, List.nil_append, and_self, and_true]
  exact .inr (by omega)
theorem Lp.ED {h : Hp} {v : a9} {cnt : Nat} {xs : List a9} (l : Lp h v cnt xs) : binOp env .eql 95 v .aL = M.pure (.bool (lT v)) ∧ (lT v = true → v = .aL ∧ cnt = 0 ∧ xs = []) := by
  cases l with
  | nil => exact ⟨rfl, fun _ => ⟨rfl, rfl, rfl⟩⟩
  | zero id off c hh hs => exact ⟨rfl, fun q => by cases q⟩
  | sl id cnt cells xs hh h0 hl hx => exact ⟨rfl, fun q => by cases q⟩
theorem f86 (v : a9) (cnt : Nat) (xs : List a9) (h : Hp) (n : Nat) (hv : Lp h v cnt xs) (h1 : xs.all bC = true) (hc : cnt ≤ 1000000) (hf : bB h n) :
    Wp (aQ env (aE env) 86 [v]) h n fun v' h' n' => Lp h' v' cnt xs ∧ (∀ j, aT v' = some j → n ≤ j ∧ j < n') ∧ Old h h' n := by
  refine aW aR3 aH5 ?_
  obtain ⟨en, en2⟩ := hv.ED
  simp only [ZM, Try.f86, Option.getD_some, List.replicate, fgr, Nat.reduceSub, en, gE]
  cases hnil : lT v with
  | true =>
    obtain ⟨e1, e2, e3⟩ := en2 hnil
    subst e1; subst e2; subst e3
    simp only [fgr, gE]
    exact ⟨.nil, (fun j q => by cases q), Old.refl _ _⟩
  | false =>
    simp only [tyr, buildSlice, eS, fill, Nat.ble, gE]
    refine hG iO hf (f := fun id => a9.sl id 0 0 (some 0) 1) fun H r o f => ?_
    simp only [builtin, gE]
    have hv' := hv.aO (h' := H) fun j q => o j (by have := hv.dL hf q; omega)
    have hlen := hv.rds.length
    refine NA (KX r hv'.rds h1 hc f) fun v2 h2 n2 hn2 hh => ?_
    simp only [fgr, gE]
    rcases hh with ⟨e1, e2, e3, e4⟩ | ⟨e1, e2, e3, e4⟩
    · subst e1; subst e2; subst e3; subst e4
      have : xs = [] := List.eq_nil_of_length_eq_zero (by omega)
      subst this
      exact ⟨.zero n 0 _ r (Nat.zero_le _), (fun j q => by injection q with q; omega), fun j hj => o j (by omega)⟩
    · subst e2; subst e3; subst e4
      have hxl : xs.length = cnt := by omega
      exact ⟨.sl (n + 1) cnt xs xs (aM _ _ _) (by omega) (by omega) (List.take_of_length_le (by omega)), (fun j q => by injection q with q; omega), fun j hj => by rw [aK _ _ (by omega), o j (by omega)]⟩
theorem f41 (x : Nat) (L : List Ver) (D M : Nat → Prop) (h : Hp) (n : Nat) (hs : Ix h n D M x L) (hc : L.length ≤ 1000000) (hf : bB h n) :
    Wp (aQ env (aE env) 41 [.ptr x 0]) h n fun v' h' n' => ∃ y M', v' = .ptr y 0 ∧ Ix h' n' D M' y L ∧ (∀ j, M' j → n ≤ j) ∧ Old h h' n := by
  obtain ⟨⟨S, s0, rS, perm⟩, rL, ok⟩ := hs
  have s00 := s0
  obtain ⟨vl, vs, xl, xs, iv, mx, ml, ms, mn⟩ := s00
  refine aW aT8 aK0 ?_
  simp only [ab1, Try.f41, Option.getD_some, List.replicate, fgr, hkr, Nat.reduceSub, gE]
  refine dJ (f73 x _ true h n iv.row rfl) ?_
  simp only [fgr, hkr, gE]
  refine aU hf (f40 h n hf) fun v1 h1 n1 hn1 f1 ⟨y, e1, hy, i1, o1⟩ => ?_
  subst e1
  obtain ⟨⟨S1, ⟨vl1, vs1, xl1, xs1, jv, _⟩, _⟩, _⟩ := i1
  have yn := jv.xn
  obtain ⟨e0, jr⟩ := jv.row
  have row1 := iv.row.aO (o1 x iv.xn)
  have lp1 := iv.l.aO (h' := h1) fun j q => o1 j (mn j (ml j q)).1
  have ls1 := iv.s.aO (h' := h1) fun j q => o1 j (mn j (ms j q)).1
  have xn := iv.xn
  have xy : x ≠ y := by omega
  have hSl : S.length = L.length := perm.length_eq.symm
  simp only [fgr, gE]
  refine c9 ⟨rfl, ?_⟩
  simp only [tyr, aR, Nat.reduceAdd, gE]
  rw [aZ (row1.one (off := 1) rfl oQ rfl)]
  simp only [hkr, Nat.reduceAdd, gE]
  have fo1 : ∀ S : Nat → Bool, bB (only S h1) n1 := fun S => f1.only
  refine C8 (fun j => decide (aT vl = some j)) f1 (f86 vl L.length xl (only (fun j => decide (aT vl = some j)) h1) n1 (lp1.aO fun j q => iK (decide_eq_true q)) iv.lp.cells hc (fo1 _)) fun v2 h2 n2 r2 w2 hr2 hn2 f2 ⟨l2, i2, o2⟩ hin hout hr hw => ?_
  have vln : ∀ j, aT vl = some j → j < n ∧ j ≠ x ∧ j ≠ y := fun j q => by
    have h1 := (mn j (ml j q)).1
    exact ⟨h1, (iv.vlx j q).1, by omega⟩
  have vsn : ∀ j, aT vs = some j → j < n ∧ j ≠ x ∧ j ≠ y := fun j q => by
    have h1 := (mn j (ms j q)).1
    exact ⟨h1, (iv.vsx j q).1, by omega⟩
  have old2 : Old h1 h2 n1 := fun j hj => by
    by_cases q : aT vl = some j
    · rw [hin j (.inl (decide_eq_true q)), o2 j hj, iK (decide_eq_true q)]
    · exact hout j hj (decide_eq_false q)
  have l2' : Lp h2 v2 L.length xl := l2.aO fun j q => hin j (.inr (i2 j q).1)
  simp only [tyr, aR, Nat.reduceAdd, gE]
  rw [aZ ((row1.aO (old2 x (by have := iv.xn; omega))).one (off := 3) rfl oQ rfl)]
  simp only [hkr, Nat.reduceAdd, gE]
  have ls2 := ls1.aO (h' := h2) fun j q => old2 j (by have := (vsn j q).1; omega)
  have fo2 : ∀ S : Nat → Bool, bB (only S h2) n2 := fun S => f2.only
  refine C8 (fun j => decide (aT vs = some j)) f2 (f86 vs S.length xs (only (fun j => decide (aT vs = some j)) h2) n2 (ls2.aO fun j q => iK (decide_eq_true q)) iv.sp.cells (by omega) (fo2 _)) fun v3 h3 n3 r3 w3 hr3 hn3 f3 ⟨l3, i3, o3⟩ hin3 hout3 hr3' hw3 => ?_
  have old3 : Old h2 h3 n2 := fun j hj => by
    by_cases q : aT vs = some j
    · rw [hin3 j (.inl (decide_eq_true q)), o3 j hj, iK (decide_eq_true q)]
    · exact hout3 j hj (decide_eq_false q)
  have l3' : Lp h3 v3 S.length xs := l3.aO fun j q => hin3 j (.inr (i3 j q).1)
  have l2'' : Lp h3 v2 L.length xl := l2'.aO fun j q => old3 j (i2 j q).2
  have jr3 : h3 y = some (.row (.l [.bool true, vl1, fo false, vs1, fo true]) e0) := by rw [old3 y (by omega), old2 y (by omega)]; exact jr
  simp only [tyr, aR, Nat.reduceAdd, gE]
  have k2 := l2.rds.kind
  have k3 := l3.rds.kind
  refine kN (Row.write (v := v2) jr3 oQ (by rw [k2.1]; rfl) (by show 1 + 1 ≤ 5; omega) (by rw [k2.1]; simp [k2.2.1])) ?_
  rw [k2.1, show bV [.bool true, vl1, fo false, vs1, fo true] 1 [v2] = [.bool true, v2, fo false, vs1, fo true] from rfl]
  simp only [tyr, aR, Nat.reduceAdd, gE]
  refine kN (Row.write (v := v3) (aM _ _ _) oQ (by rw [k3.1]; rfl) (by show 3 + 1 ≤ 5; omega) (by rw [k3.1]; simp [k3.2.1])) ?_
  rw [k3.1, show bV [.bool true, v2, fo false, vs1, fo true] 3 [v3] = [.bool true, v2, fo false, v3, fo true] from rfl]
  simp only [fgr, Nat.reduceAdd, gE]
  have nx2 : x ∉ w2 := fun q => (vln x (of_decide_eq_true (hw x q))).2.1 rfl
  have ny2 : y ∉ w2 := fun q => (vln y (of_decide_eq_true (hw y q))).2.2 rfl
  have nry2 : y ∉ r2 := fun q => (vln y (of_decide_eq_true (hr y q))).2.2 rfl
  have nx3 : x ∉ w3 := fun q => (vsn x (of_decide_eq_true (hw3 x q))).2.1 rfl
  have ny3 : y ∉ w3 := fun q => (vsn y (of_decide_eq_true (hw3 y q))).2.2 rfl
  have nry3 : y ∉ r3 := fun q => (vsn y (of_decide_eq_true (hr3' y q))).2.2 rfl
  refine ⟨(by (try simp (disch := first | assumption | omega) only [cM, gF]); repeat' (first | rfl | exact (Bool.or_eq_true _ _).mpr (.inr rfl) | refine (Bool.and_eq_true _ _).mpr ⟨?_, ?_⟩)), ?_⟩
  obtain ⟨H4, hH4⟩ : ∃ H4, H4 = upd (upd h3 y (some (Blk.row (bI.l [a9.bool true, v2, fo false, vs1, fo true]) e0))) y (some (Blk.row (bI.l [a9.bool true, v2, fo false, v3, fo true]) e0)) := ⟨_, rfl⟩
  have o4 : ∀ j, j ≠ y → H4 j = h3 j := fun j hj => by rw [hH4, aK _ _ hj, aK _ _ hj]
  have r4 : Row H4 y [.bool true, v2, fo false, v3, fo true] := by rw [hH4]; exact Row.new _ _ _ _
  rw [← hH4]
  clear hH4
  have old4 : Old h H4 n := fun j hj => by rw [o4 j (by omega), old3 j (by omega), old2 j (by omega), o1 j hj]
  have hdn := iv.dn
  refine ⟨y, fun j => j = y ∨ aT v2 = some j ∨ aT v3 = some j, rfl, ⟨⟨S, ⟨v2, v3, xl, xs, ⟨r4, l2''.aO fun j q => o4 j (by have := i2 j q; omega), iv.lp.mono (fun j q => q) (fun j q => old4 j (hdn j q)), l3'.aO fun j q => o4 j (by have := i3 j q; omega), iv.sp.mono (fun j q => q) (fun j q => old4 j (hdn j q)), by omega, fun j q => by have := hdn j q; omega, fun q => by have := hdn y q; omega, fun j q => ⟨by have := i2 j q; omega, fun w => by have := hdn j w; have := i2 j q; omega⟩, fun j q => ⟨by have := i3 j q; omega, fun w => by have := hdn j w; have := i3 j q; omega, fun w => by have := i2 j w; have := i3 j q; omega⟩⟩, .inl rfl, fun j q => .inr (.inl q), fun j q => .inr (.inr q), fun j q => ?_⟩, rS, perm⟩, rL, ok⟩, fun j q => ?_, old4⟩
  · rcases q with q | q | q
    · subst q; exact ⟨by omega, fun w => by have := hdn _ w; omega⟩
    · have := i2 j q; exact ⟨by omega, fun w => by have := hdn j w; omega⟩
    · have := i3 j q; exact ⟨by omega, fun w => by have := hdn j w; omega⟩
  · rcases q with q | q | q
    · omega
    · have := i2 j q; omega
    · have := i3 j q; omega
def kpB (ls : List (List UInt8)) (j : Nat) : Bool := j == 0 || (ls.getD j [] != ls.getD (j - 1) [])
def kp (ls : List (List UInt8)) (m : Nat) : List Nat := (List.range m).filter (kpB ls)
structure Bs (h : Hp) (D : Nat → Prop) (xs : List a9) (ls : List (List UInt8)) : Prop where
  len : xs.length = ls.length
  at_ : ∀ (j : Nat) (hj : j < ls.length), ∃ x, xs[j]? = some x ∧ Bytes h x ls[j] ∧ ∀ i, aT x = some i → D i
theorem Bs.nil (h : Hp) (D : Nat → Prop) : Bs h D [] [] := ⟨rfl, fun j hj => by simp at hj⟩
theorem Bs.mono {h h' : Hp} {D D' : Nat → Prop} {xs : List a9} {ls : List (List UInt8)} (p : Bs h D xs ls) (hd : ∀ j, D j → D' j) (hk : ∀ j, D j → h' j = h j) : Bs h' D' xs ls :=
  ⟨p.len, fun j hj => by
    obtain ⟨x, e, b, d⟩ := p.at_ j hj
    exact ⟨x, e, b.aO fun i q => hk i (d i q), fun i q => hd i (d i q)⟩⟩
def BL (h : Hp) (n0 n : Nat) (v : a9) (ls : List (List UInt8)) : Prop := ∃ xs, Lst h 29 1 v ls.length xs ∧ Bs h (fun j => n0 ≤ j ∧ j < n ∧ aT v ≠ some j) xs ls ∧ ∀ j, aT v = some j → n0 ≤ j ∧ j < n
theorem BL.aO {h h' : Hp} {a b : Nat} {v : a9} {ls : List (List UInt8)} (l : BL h a b v ls) (hk : ∀ j, a ≤ j → j < b → h' j = h j) : BL h' a b v ls := by
  obtain ⟨cells, c1, c2, c3⟩ := l
  exact ⟨cells, c1.aO fun j q => hk j (c3 j q).1 (c3 j q).2, c2.mono (fun j q => q) (fun j q => hk j q.1 q.2.1), c3⟩
theorem BL.old {h h' : Hp} {a b n : Nat} {v : a9} {ls : List (List UInt8)} (l : BL h a b v ls) (hn : b ≤ n) (hk : Old h h' n) : BL h' a b v ls := l.aO fun j _ q => hk j (by omega)
theorem BL.len {h : Hp} {a b : Nat} {v : a9} {ls : List (List UInt8)} (l : BL h a b v ls) {u : TypeId} {ts : List TypeId} (hu : und env u = M.pure (.slice 29)) : cA env (u :: ts) v = M.pure (.int .i64 (ls.length : Nat)) := by
  obtain ⟨cells, c1, c2, c3⟩ := l
  exact c1.rds.cA hu
def eZ (L : List Ver) (z : Int) (ds : List (List UInt8)) : Nat := (ds.map fun d => (ofV L d z).length).sum
theorem UD {L : List Ver} {z : Int} {v : Ver} (hv : v ∈ L) (ht : cI v z = true) : (atV L v.aP v.pn z).isSome = true := by
  unfold atV
  cases e : (L.filter fun w => same v.aP v.pn w && cI w z).getLast? with
  | some a => rfl
  | none =>
    rw [List.getLast?_eq_none_iff] at e
    have : v ∈ L.filter fun w => same v.aP v.pn w && cI w z := List.mem_filter.2 ⟨hv, by simp [ht, same]⟩
    rw [e] at this
    cases this
structure ah3 (h : Hp) (n : Nat) (N : a9) : Prop where
  k : N = .cY ∨ ∃ x, N = .ptr x 0
  f : ∀ h' n', Old h h' n → Wp (aQ env (aE env) 73 [N]) h' n' fun v a b => v = .bool true ∧ a = h' ∧ b = n'
theorem ah3.old {h h' : Hp} {n n' : Nat} {N : a9} (q : ah3 h n N) (hn : n ≤ n') (ho : Old h h' n) : ah3 h' n' N := ⟨q.k, fun h2 n2 o => q.f h2 n2 fun j hj => by rw [o j (by omega), ho j hj]⟩
def nv (pn made value c8 : Int) (s : List UInt8) : Ver := ⟨z0, pn, made, value, s, false, c8, z0⟩
def a4 : Ver := nv 3 4 0 4 []
def a6 : Ver := nv 3 6 2 0 []
def b1v : Ver := nv 1 0 0 0 [98]
def L3 : List Ver := [b1v, a4, a6]
abbrev Pt := List UInt8 × Int
def ptA (p : Pt) : a9 := .agg (aV p.1 p.2)
theorem F9 {a b : UInt8} (h : u8 a = u8 b) : a = b := by
  unfold u8 at h
  injection h with h1 h2
  exact UInt8.toNat_inj.1 (by omega)
theorem lS : ∀ {a b : List UInt8}, a.map u8 = b.map u8 → a = b
  | [], [], _ => rfl
  | [], _ :: _, h => by cases h
  | _ :: _, [], h => by cases h
  | x :: a, y :: b, h => by
    simp only [List.map_cons, List.cons.injEq] at h
    rw [F9 h.1, lS h.2]
theorem sU {p q : Pt} (h : ptA p = ptA q) : p = q := by
  unfold ptA aV at h
  injection h with h
  obtain ⟨h1, h2⟩ := List.append_inj' h rfl
  injection h2 with h2
  injection h2 with _ h2
  exact Prod.ext (lS h1) h2
noncomputable def isK (k a : a9) : Bool := @decide (a = k) (Classical.propDecidable _)
theorem mF {k a : a9} : isK k a = true ↔ a = k := by unfold isK; exact @decide_eq_true_iff _ (Classical.propDecidable _)
theorem xU {k a : a9} (h : a ≠ k) : isK k a = false := by
  cases e : isK k a with
  | false => rfl
  | true => exact absurd (mF.1 e) h
theorem wL (p q : Pt) (l1 : p.1.length = 32) (l2 : q.1.length = 32) : bU env 28 (ptA p) (ptA q) = M.pure (isK (ptA p) (ptA q)) := by
  have e : bU env 28 (ptA p) (ptA q) = M.pure (decide (p.1 = q.1) && (p.2 == q.2)) := TR 97 p.1 q.1 p.2 q.2 l1 l2
  rw [e]
  congr 1
  by_cases c : p = q
  · subst c
    rw [mF.2 rfl]; simp
  · rw [xU fun w => c (sU w).symm]
    by_cases d : p.1 = q.1
    · rw [decide_eq_true d, Bool.true_and, beq_eq_false_iff_ne]
      exact fun w => c (Prod.ext d w)
    · rw [decide_eq_false d]; rfl
theorem OE (d : Nat) (x : UInt8) : iT env (d + 1) 5 (u8 x) = M.pure () := by
  simp only [iT, und, ti5, aD]
theorem nF {α : Type} {f : α → M Unit} : ∀ (l : List α), (∀ x ∈ l, f x = M.pure ()) → CQ f l = M.pure ()
  | [], _ => rfl
  | x :: l, h => by simp only [CQ, h x (List.mem_cons_self ..), aD, nF l fun y hy => h y (List.mem_cons_of_mem _ hy)]
theorem G9 (d : Nat) (a : List UInt8) (ha : a.length = 32) : iT env (d + 1 + 1) 25 (.agg (a.map u8)) = M.pure () := by
  rw [iT]
  simp only [und, nK, aD, gR, sizeOf, ti5]
  refine nF _ fun i hi => ?_
  have hi := List.mem_range.1 hi
  rw [Nat.mul_one, xJ (by omega), aD, OE]
theorem uK (p : Pt) (l1 : p.1.length = 32) : iT env 100 28 (ptA p) = M.pure () := by
  have p0 : part env 25 (aV p.1 p.2) 0 = M.pure (.agg (p.1.map u8)) := by
    simp only [part, nK, aD, kS, List.drop_zero]
    rw [show (aV p.1 p.2).take 32 = p.1.map u8 by unfold aV; rw [List.take_append_of_le_length (by simp [l1]), List.take_of_length_le (by simp [l1])]]
  have p1 : part env 26 (aV p.1 p.2) 32 = M.pure (.int .u32 p.2) := by
    simp only [part, uG, aD, kS, kG l1, fS]
  have p2 : iT env (97 + 1 + 1) 26 (.int .u32 p.2) = M.pure () := by
    rw [iT]; simp only [und, uG, aD]
  unfold ptA
  show iT env (97 + 1 + 1 + 1) 28 (.agg (aV p.1 p.2)) = M.pure ()
  rw [iT]
  simp only [und, jJ, aD, gR]
  simp only [CQ, show decide ("Tx" = "_") = false from rfl, show decide ("N" = "_") = false from rfl, p0, p1, aD, G9 97 p.1 l1, p2]
def kF (q : List Pt) (p : Pt) : Nat := q.countP fun x => decide (x = p)
theorem xI (q : List Pt) (p x : Pt) : kF (q ++ [p]) x = kF q x + if p = x then 1 else 0 := by
  unfold kF
  rw [List.countP_append, List.countP_singleton]
  congr 1
  by_cases c : p = x <;> simp [c]
theorem S7 (q : List Pt) (p : Pt) : kF q p ≤ q.length := List.countP_le_length
def jL (q dd : List Pt) : List (a9 × a9) := dd.map fun p => (ptA p, .int .i64 (kF q p : Nat))
structure Pm (h : Hp) (id : Nat) (q : List Pt) : Prop where
  ex : ∃ b dd, eF h id b (jL q dd) ∧ dd.Nodup ∧ (∀ p ∈ dd, p.1.length = 32) ∧ ∀ p, p ∈ dd ↔ p ∈ q
theorem Pm.aO {h h' : Hp} {id : Nat} {q : List Pt} (m : Pm h id q) (hk : h' id = h id) : Pm h' id q := by
  obtain ⟨b, dd, a, r⟩ := m
  exact ⟨b, dd, a.aO hk, r⟩
theorem ET (q : List Pt) (p : Pt) : ∀ (dd : List Pt) (i : Nat), (p ∉ dd ∧ dB (isK (ptA p)) (jL q dd) i = none) ∨ ∃ j, j < dd.length ∧ dd[j]? = some p ∧ dB (isK (ptA p)) (jL q dd) i = some (i + j, .int .i64 (kF q p : Nat))
  | [], i => .inl ⟨List.not_mem_nil, rfl⟩
  | x :: dd, i => by
    by_cases c : x = p
    · subst c
      refine .inr ⟨0, by simp, rfl, ?_⟩
      simp only [jL, List.map_cons, dB, mF.2 rfl, Nat.add_zero, if_pos]
    · have e : dB (isK (ptA p)) (jL q (x :: dd)) i = dB (isK (ptA p)) (jL q dd) (i + 1) := by
        simp only [jL, List.map_cons, dB, xU fun w => c (sU w), Bool.false_eq_true, if_neg, not_false_eq_true]
      rcases ET q p dd (i + 1) with ⟨h1, h2⟩ | ⟨j, h1, h2, h3⟩
      · refine .inl ⟨fun w => ?_, e.trans h2⟩
        rcases List.mem_cons.1 w with w | w
        · exact c w.symm
        · exact h1 w
      · exact .inr ⟨j + 1, by simpa using h1, by simpa using h2, by rw [e, h3, Nat.add_assoc, Nat.add_comm 1 j]⟩
theorem A5 {q : List Pt} {p : Pt} (h : p ∉ q) : kF q p = 0 := by
  unfold kF
  rw [List.countP_eq_zero]
  intro x hx
  simp only [decide_eq_true_eq]
  rintro rfl
  exact h hx
theorem FA : und env 161 = M.pure (.map 28 3) := rfl
theorem z3o : j3 env 3 = M.pure (.int .i64 0) := rfl
theorem N6 {q dd : List Pt} {p : Pt} (l1 : p.1.length = 32) (hl : ∀ p ∈ dd, p.1.length = 32) : ∀ e ∈ jL q dd, bU env 28 (ptA p) e.1 = M.pure (isK (ptA p) e.1) := fun e he => by
  obtain ⟨x, hx, rfl⟩ := List.mem_map.1 he
  exact wL p x l1 (hl x hx)
theorem Pm.lookup {h : Hp} {n id : Nat} {q : List Pt} (m : Pm h id q) {p : Pt} (l1 : p.1.length = 32) : Rd (iN env 161 (.map id) (ptA p) false) h n [id] (.int .i64 (kF q p : Nat)) := by
  obtain ⟨b, dd, a, nd, hl, hm⟩ := m
  have := a.lookup (n := n) FA (uK p l1) (N6 l1 hl) z3o
  rcases ET q p dd 0 with ⟨h1, h2⟩ | ⟨j, h1, h2, h3⟩
  · rw [h2] at this
    rw [A5 fun w => h1 ((hm p).2 w)]
    exact this
  · rw [h3] at this
    exact this
def pcv (q : List Pt) (x : Pt) : Pt × Int := (x, ((kF q x : Nat) : Int))
theorem DI (q dd : List Pt) : (dd.map (pcv q)).map Ins.cv = jL q dd := by
  rw [List.map_map]; rfl
theorem I8 (q : List Pt) (p : Pt) : ∀ (dd : List Pt) (i : Nat), (p ∉ dd ∧ Ins.mG p (dd.map (pcv q)) i = none) ∨ ∃ j, j < dd.length ∧ dd[j]? = some p ∧ Ins.mG p (dd.map (pcv q)) i = some (i + j, ((kF q p : Nat) : Int))
  | [], i => .inl ⟨List.not_mem_nil, rfl⟩
  | x :: dd, i => by
    by_cases c : x = p
    · subst c
      exact .inr ⟨0, by simp, rfl, by simp [Ins.mG, pcv]⟩
    · have e : Ins.mG p ((x :: dd).map (pcv q)) i = Ins.mG p (dd.map (pcv q)) (i + 1) := by
        simp only [List.map_cons, Ins.mG, pcv]
        rw [if_neg c]
      rcases I8 q p dd (i + 1) with ⟨h1, h2⟩ | ⟨j, h1, h2, h3⟩
      · refine .inl ⟨fun w => ?_, e.trans h2⟩
        rcases List.mem_cons.1 w with w | w
        · exact c w.symm
        · exact h1 w
      · exact .inr ⟨j + 1, by simpa using h1, by simpa using h2, by rw [e, h3, Nat.add_assoc, Nat.add_comm 1 j]⟩
theorem GR {q dd : List Pt} {p : Pt} (nd : dd.Nodup) (hm : ∀ p, p ∈ dd ↔ p ∈ q) (hq : q.length ≤ 10000000) : ∃ dd' : List Pt, Ins.bump p (dd.map (pcv q)) = dd'.map (pcv (q ++ [p])) ∧ dd'.Nodup ∧ ∀ x, x ∈ dd' ↔ x ∈ q ++ [p] := by
  have hle := S7 q p
  rcases I8 q p dd 0 with ⟨h1, h2⟩ | ⟨j, h1, h2, h3⟩
  · have hnq : p ∉ q := fun w => h1 ((hm p).2 w)
    refine ⟨dd ++ [p], ?_, ?_, fun x => by rw [List.mem_append, List.mem_append, hm]⟩
    · unfold Ins.bump
      rw [h2, List.map_append]
      have e2 : dd.map (pcv (q ++ [p])) = dd.map (pcv q) := List.map_congr_left fun x hx => by
        unfold pcv
        rw [xI, if_neg (fun w => h1 (by rw [w]; exact hx))]; rfl
      rw [e2]
      simp only [List.map_cons, List.map_nil, pcv]
      rw [xI, if_pos rfl, A5 hnq]; rfl
    · rw [List.nodup_append]
      exact ⟨nd, by simp, fun x hx y hy => by rw [List.mem_singleton] at hy; subst hy; exact fun w => h1 (w ▸ hx)⟩
  · rw [Nat.zero_add] at h3
    refine ⟨dd, ?_, nd, fun x => ?_⟩
    · unfold Ins.bump
      rw [h3]
      simp only
      rw [w64 (by omega) (by omega)]
      refine List.ext_getElem? fun i => ?_
      rw [List.getElem?_modify, List.getElem?_map, List.getElem?_map]
      cases ed : dd[i]? with
      | none => rfl
      | some x =>
        simp only [Option.map_some, Option.map_eq_map]
        unfold pcv
        rw [xI]
        by_cases c : j = i
        · subst c
          rw [h2] at ed
          injection ed with ed
          subst ed
          simp
        · simp only [if_neg c]
          rw [if_neg fun w => c ?_]
          · simp
          · subst w
            obtain ⟨_, e1⟩ := List.getElem?_eq_some_iff.1 h2
            obtain ⟨_, e2⟩ := List.getElem?_eq_some_iff.1 ed
            exact (List.getElem_inj nd).1 (e1.trans e2.symm)
    · rw [hm, List.mem_append, List.mem_singleton]
      constructor
      · exact fun w => .inl w
      · rintro (w | w)
        · exact w
        · subst w; exact (hm x).1 (List.mem_of_getElem? h2)
theorem HH {h : Hp} {n id x : Nat} {tm : List a9} {mm cc : Nat} {ts : List Nat} {cells : List a9} {p : Pt} {q : List Pt} {Q : eJ × List a9 → Hp → Nat → Prop}
    (hm : nth tm mm undef = .map id) (hc : nth tm cc undef = .ptr x 0) (hts : ts.all (fun t => t.blt tm.length) = true) (hr : Row h x cells) (he : cells.take 33 = aV p.1 p.2) (l1 : p.1.length = 32) (m : Pm h id q) (hq : q.length ≤ 10000000)
    (hQ : ∀ H2, (∀ j, j ≠ id → H2 j = h j) → Pm H2 id (q ++ [p]) → Q (.normal, Ins.vJ tm ts) H2 n) : Wp (Ins.qO mm cc ts tm) h n Q := by
  obtain ⟨b, dd, a, nd, hl, hmm⟩ := m
  obtain ⟨t, hr⟩ := hr
  obtain ⟨dd', e1, e2, e3⟩ := GR (p := p) nd hmm hq
  have a' := a
  unfold eF at a'
  have hb : Ins.EP (.row (.l cells) t) (.map (eW b (jL q dd)) (b + (jL q dd).length)) = some (p, b, dd.map (pcv q)) := by
    have q1 : Ins.FJ (cells.take 33) = some p := by rw [he]; exact Ins.HV l1
    have q2 : b + (jL q dd).length - (eW b (jL q dd)).length = b := by rw [pM]; omega
    have q3 : Ins.oF b (eW b (jL q dd)) = some (dd.map (pcv q)) := by
      rw [← DI]
      exact Ins.tO _ _ fun x hx => by
        obtain ⟨y, hy, rfl⟩ := List.mem_map.1 hx
        exact hl y hy
    have q4 : (eW b (jL q dd)).length.ble (b + (jL q dd).length) = true := by rw [pM]; exact cQ (by omega)
    unfold Ins.EP
    simp only [q1, q2, q3, q4]
  have hp : eF (upd h id (some (.map (eW b ((Ins.bump p (dd.map (pcv q))).map Ins.cv)) (b + (Ins.bump p (dd.map (pcv q))).length)))) id b (jL (q ++ [p]) dd') := by
    unfold eF
    rw [aM, e1, DI]
    simp only [jL, List.length_map]
  unfold Ins.qO
  simp only [hm, hc, hts, Nat.beq_refl, Bool.true_and, eU, hr, a', Option.some.injEq, exists_eq_left', hb, nJ, aS]
  refine ⟨by simp [], hQ _ (fun j hj => aK _ _ hj) ⟨b, dd', hp, e2, fun x hx => ?_, e3⟩⟩
  rcases List.mem_append.1 ((e3 x).1 hx) with w | w
  · exact hl x ((hmm x).2 w)
  · rw [List.mem_singleton] at w; subst w; exact l1
theorem Pm.clear {h : Hp} {n id : Nat} {q : List Pt} (m : Pm h id q) : ∃ h2, Wr (pU env [161] (.map id)) h n [id] [id] (a9.tup []) h2 ∧ (∀ j, j ≠ id → h2 j = h j) ∧ Pm h2 id [] := by
  obtain ⟨b, dd, a, nd, hl, hm⟩ := m
  obtain ⟨h2, w, a2, k⟩ := a.clear (n := n) (ts := []) FA
  exact ⟨h2, w, k, _, [], a2, List.nodup_nil, (fun p hp => by cases hp), (fun p => ⟨fun w => (by cases w), fun w => (by cases w)⟩)⟩
theorem Pm.new {h : Hp} {id : Nat} (e : h id = some (.map [] 0)) : Pm h id [] := ⟨0, [], e, List.nodup_nil, (fun p hp => by cases hp), (fun p => ⟨fun w => (by cases w), fun w => (by cases w)⟩)⟩
structure Spd where
  aP : List UInt8
  pn : Int
  by_ : List UInt8
def eC (s : Spd) : List a9 := aV s.aP s.pn ++ s.by_.map u8
structure Spd.Ok (s : Spd) : Prop where
  h : s.aP.length = 32
  b : s.by_.length = 32
theorem lK {s : Spd} (o : s.Ok) : (eC s).length = 65 := by simp [eC, bW o.h, o.b]
theorem rO (s : Spd) : (eC s).all bC = true := by
  unfold eC
  rw [List.all_append, rQ, List.all_map]
  simp [u8, bC]
theorem MD {s : Spd} (o : s.Ok) : (eC s).take 33 = aV s.aP s.pn := by
  unfold eC; rw [List.take_append_of_le_length (by rw [bW o.h]; omega), List.take_of_length_le (by rw [bW o.h]; omega)]
theorem wD {h : Hp} {n id : Nat} {s : Spd} (hr : Row h id (eC s)) (o : s.Ok) : Rd (load env 28 (.ptr id 0)) h n [id] (.agg (aV s.aP s.pn)) := by
  have := hr.agg (E := env) (n := n) (off := 0) jJ rfl (by rw [lK o]; decide)
  have e : ((eC s).drop 0).take 33 = aV s.aP s.pn := by unfold eC; rw [List.drop_zero, List.take_append_of_le_length (by rw [bW o.h]; omega), List.take_of_length_le (by rw [bW o.h]; omega)]
  exact e ▸ this
theorem RU {h : Hp} {n id : Nat} {s : Spd} (hr : Row h id (eC s)) (o : s.Ok) : Rd (load env 25 (.ptr id 33)) h n [id] (.agg (s.by_.map u8)) := by
  have := hr.agg (E := env) (n := n) (off := 33) nK rfl (by rw [lK o]; decide)
  have e : ((eC s).drop 33).take 32 = s.by_.map u8 := by unfold eC; rw [← bW (pn := s.pn) o.h, List.drop_left, List.take_of_length_le (by simp [o.b])]
  exact e ▸ this
def SL (h : Hp) (a b : Nat) (v : a9) (ss : List Spd) : Prop := ∃ cells, Lst h 48 65 v ss.length cells ∧ (∀ (j : Nat) (hj : j < ss.length), (cells.drop (j * 65)).take 65 = eC ss[j] ∧ ss[j].Ok) ∧ ∀ j, aT v = some j → a ≤ j ∧ j < b
theorem SL.aO {h h' : Hp} {a b : Nat} {v : a9} {ss : List Spd} (l : SL h a b v ss) (hk : ∀ j, a ≤ j → j < b → h' j = h j) : SL h' a b v ss := by
  obtain ⟨cells, c1, c2, c3⟩ := l
  exact ⟨cells, c1.aO fun j q => hk j (c3 j q).1 (c3 j q).2, c2, c3⟩
theorem u44 : und env 44 = M.pure (.slice 48) := rfl
theorem az4 : sizeOf env 48 = M.pure 65 := rfl
theorem SL.len {h : Hp} {a b : Nat} {v : a9} {ss : List Spd} (l : SL h a b v ss) {ts : List TypeId} : cA env (44 :: ts) v = M.pure (.int .i64 (ss.length : Nat)) := by
  obtain ⟨cells, c1, c2, c3⟩ := l
  exact c1.rds.cA u44
theorem SL.idx {h : Hp} {a b : Nat} {v : a9} {ss : List Spd} (l : SL h a b v ss) {i : Nat} (hi : i < ss.length) {h' : Hp} {n' : Nat} : Rd (indexAddr env 44 v (.int .i64 ((i : Nat) : Int))) h' n' [] (dM (i * 65) v) := by
  obtain ⟨cells, c1, c2, c3⟩ := l
  exact c1.rds.idx u44 az4 rfl hi
theorem SL.kind {h : Hp} {a b : Nat} {v : a9} {ss : List Spd} (l : SL h a b v ss) : v.cells = [v] ∧ bC v = true ∧ dA v = false := by
  obtain ⟨cells, c1, c2, c3⟩ := l
  exact c1.rds.kind
theorem VL.kind {h : Hp} {a b : Nat} {v : a9} {ss : List Ver} (l : VL h a b v ss) : v.cells = [v] ∧ bC v = true ∧ dA v = false := by
  obtain ⟨cells, c1, c2, c3⟩ := l
  exact c1.rds.kind
theorem SL.all {h : Hp} {n a b : Nat} {v : a9} {ss : List Spd} (l : SL h a b v ss) {i : Nat} (hi : i < ss.length) : ss[i].Ok ∧ Rd (load env 48 (dM (i * 65) v)) h n (rid v) (.agg (eC ss[i])) := by
  obtain ⟨cells, c1, c2, c3⟩ := l
  obtain ⟨e, o⟩ := c2 i hi
  refine ⟨o, ?_⟩
  have hl : cells.length = ss.length * 65 := c1.rds.length
  have := c1.rds.agg (E := env) (n := n) (k := i * 65) z6 rfl (by decide) (by show i * 65 + 65 ≤ _; omega)
  have e' : (cells.drop (i * 65)).take 65 = eC ss[i] := e
  exact e' ▸ this
structure App where
  bJ : Int
  block : List UInt8
  made : List Ver
  bN : List Spd
  dX : Int
  left : Int
def aX (A : App) (mv sv : a9) : List a9 := .int .i64 A.bJ :: (A.block.map u8 ++ [mv, sv, .int .i64 A.dX, .int .i64 A.left])
structure jN (h : Hp) (a b : Nat) (A : App) (mv sv : a9) : Prop where
  m : VL h a b mv A.made
  s : SL h a b sv A.bN
  b : A.block.length = 32
  ml : A.made.length ≤ 1000000
  sl : A.bN.length ≤ 1000000
theorem jN.aO {h h' : Hp} {a b : Nat} {A : App} {mv sv : a9} (l : jN h a b A mv sv) (hk : ∀ j, a ≤ j → j < b → h' j = h j) : jN h' a b A mv sv := ⟨l.m.aO hk, l.s.aO hk, l.b, l.ml, l.sl⟩
theorem cD {A : App} {mv sv : a9} (hb : A.block.length = 32) : (aX A mv sv).length = 37 := by simp [aX, hb]
theorem nH {A : App} {mv sv : a9} (hb : A.block.length = 32) (k : Nat) : (aX A mv sv)[33 + k]? = [mv, sv, .int .i64 A.dX, .int .i64 A.left][k]? := by
  unfold aX
  rw [show 33 + k = 32 + k + 1 by omega, List.getElem?_cons_succ, List.getElem?_append_right (by simp [hb]), List.length_map, hb]
  congr 1; omega
theorem uZ {h : Hp} {n id : Nat} {A : App} {mv sv : a9} (hr : Row h id (aX A mv sv)) : Rd (load env 3 (.ptr id 0)) h n [id] (.int .i64 A.bJ) := hr.one rfl ti3 rfl
theorem mO {h : Hp} {n id : Nat} {A : App} {mv sv : a9} (hr : Row h id (aX A mv sv)) (hb : A.block.length = 32) : Rd (load env 43 (.ptr id 33)) h n [id] mv := hr.one (nH hb 0) uF rfl
theorem uY {h : Hp} {n id : Nat} {A : App} {mv sv : a9} (hr : Row h id (aX A mv sv)) (hb : A.block.length = 32) : Rd (load env 44 (.ptr id 34)) h n [id] sv := hr.one (nH hb 1) FB rfl
theorem CP {h : Hp} {n id : Nat} {A : App} {mv sv : a9} (hr : Row h id (aX A mv sv)) (hb : A.block.length = 32) : Rd (load env 2 (.ptr id 35)) h n [id] (.int .i64 A.dX) := hr.one (nH hb 2) ti2 rfl
theorem CO {h : Hp} {n id : Nat} {A : App} {mv sv : a9} (hr : Row h id (aX A mv sv)) (hb : A.block.length = 32) : Rd (load env 2 (.ptr id 36)) h n [id] (.int .i64 A.left) := hr.one (nH hb 3) ti2 rfl
theorem m8 {h : Hp} {n id : Nat} {A : App} {mv sv : a9} (hr : Row h id (aX A mv sv)) (hb : A.block.length = 32) : Rd (load env 46 (.ptr id 0)) h n [id] (.agg (aX A mv sv)) := hr.gY mA rfl (cD hb)
theorem UF {h : Hp} {n id : Nat} {A : App} {mv sv : a9} (hr : Row h id (aX A mv sv)) (hb : A.block.length = 32) : Rd (load env 25 (.ptr id 1)) h n [id] (.agg (A.block.map u8)) := by
  have := hr.agg (E := env) (n := n) (off := 1) nK rfl (by rw [cD hb]; decide)
  have e : ((aX A mv sv).drop 1).take 32 = A.block.map u8 := by unfold aX; rw [List.drop_succ_cons, List.drop_zero, List.take_append_of_le_length (by simp [hb]), List.take_of_length_le (by simp [hb])]
  exact e ▸ this
def kM (n : Int) : Bool := decide (0 ≤ n) && decide (n ≤ 2100000000000000)
def wK (n : Int) : Bool := decide (0 ≤ n) && decide (n ≤ 1048576)
theorem f99 (z : Int) (h : Hp) (n : Nat) : Wp (aQ env (aE env) 99 [.int .i64 z]) h n fun v' h' n' => v' = .bool (wK z) ∧ h' = h ∧ n' = n := by
  refine aW aQ8 aH0 ?_
  unfold wK
  by_cases c : 0 ≤ z
  · simp only [TD, Try.f99, Option.getD_some, List.replicate, fgr, bor, bH, Nat.reduceSub, ge_iff_le, c, gE]
  · simp only [TD, Try.f99, Option.getD_some, List.replicate, fgr, bor, bH, Nat.reduceSub, ge_iff_le, c, gE]
theorem f100 (z : Int) (h : Hp) (n : Nat) : Wp (aQ env (aE env) 100 [.int .i64 z]) h n fun v' h' n' => v' = .bool (kM z) ∧ h' = h ∧ n' = n := by
  refine aW aw5 ar6 ?_
  unfold kM
  by_cases c : 0 ≤ z
  · simp only [ID, Try.f100, Option.getD_some, List.replicate, fgr, bor, bH, Nat.reduceSub, ge_iff_le, c, gE]
  · simp only [ID, Try.f100, Option.getD_some, List.replicate, fgr, bor, bH, Nat.reduceSub, ge_iff_le, c, gE]
def ptV (v : Ver) : Pt := (v.aP, v.pn)
def ptS (s : Spd) : Pt := (s.aP, s.pn)
def mB (z : Int) (v : Ver) : Bool := decide (v.made = z) && decide (v.c8 = 0) && decide (v.by_ = z32) && kM v.value && decide (v.aI.length ≤ 2000)
def JS (z : Int) (L : List Ver) (i : Nat) : Bool := match L[i]? with
  | some v => mB z v && decide (kF ((L.take (i + 1)).map ptV) (ptV v) = 1)
  | none => true
def NT (L : List Spd) (i : Nat) : Bool := match L[i]? with
  | some v => decide (kF ((L.take (i + 1)).map ptS) (ptS v) = 1)
  | none => true
theorem aB4 : fN env.rP 113 4 Ins.BE.c = some Ins.tZ := Ins.sD Ins.BE _ rfl
theorem al6 : fN env.rP 113 12 Ins.sS.c = some Ins.qQ := by
  show fN [Ins.sS] 113 12 _ = _
  exact Ins.sD Ins.sS _ rfl
end Go.Am.Ytlgebaofkolkoaa
set_option linter.unusedSimpArgs false
set_option linter.unusedVariables false
set_option linter.defProp false
set_option maxRecDepth 10000
namespace Go.Am.Ytlgebaofkolkoaa
open Go Go.Am Go.Proofs
theorem JU (Q : dG) (ks : List Kf) (Y mv sv : a9) (c id a b n0 : Nat) (A : App) (hid : n0 ≤ id) (hc : c < n0) (hb : b ≤ n0)
    (P : Nat → Hp → Prop) (R : Hp → Prop)
    (hP : ∀ k h, P k h → Row h c (aX A mv sv) ∧ jN h a b A mv sv)
    (hst : ∀ k h h', P k h → (∀ j, j < n0 → h' j = h j) → P k h')
    (hsr : ∀ h h', R h → (∀ j, j < n0 → h' j = h j) → R h')
    (hY : ∀ (k : Nat) (hk : k < A.made.length) (w : a9) (h : Hp) (n : Nat), P k h → n0 ≤ n → bB h n → w = .bool (JS A.bJ A.made k) → Wp (jH env (aE env) Y [ptA (ptV A.made[k]), w]) h n fun v' h' n' => ((yes true v' ∧ P (k + 1) h') ∨ (yes false v' ∧ R h')) ∧ ∀ j, n0 ≤ j → j < n → h' j = h j)
    (hT : ∀ (h : Hp) (n : Nat) (x5 x6 x8 x14 x63 x67 x68 x69 x70 x89 : a9), P A.made.length h → Pm h id (A.made.map ptV) → id < n → bB h n →
      cT env 113 none Q ks (.exit 0) (Y :: .ptr c 0 :: a9.aA :: .map id :: a9.aA :: x5 :: x6 :: a9.aA :: x8 :: a9.aA :: a9.aA :: mv :: .int .i64 (A.made.length : Nat) :: .int .i64 (A.made.length : Nat) :: x14 :: a9.aA :: a9.aA :: a9.aA :: a9.aA :: a9.aA :: a9.aA :: a9.aA :: a9.aA :: a9.aA :: a9.aA :: a9.aA :: a9.aA :: a9.aA :: a9.aA :: a9.aA :: a9.aA :: a9.aA :: a9.aA :: a9.aA :: a9.aA :: a9.aA :: a9.aA :: a9.aA :: a9.aA :: a9.aA :: a9.aA :: a9.aA :: a9.aA :: a9.aA :: a9.aA :: a9.aA :: a9.aA :: a9.aA :: a9.aA :: a9.aA :: a9.aA :: a9.aA :: a9.aA :: a9.aA :: a9.aA :: a9.aA :: a9.aA :: a9.aA :: a9.aA :: a9.aA :: a9.aA :: a9.aA :: a9.aA :: x63 :: a9.aA :: a9.aA :: a9.aA :: x67 :: x68 :: x69 :: x70 :: a9.aA :: a9.aA :: a9.aA :: a9.aA :: a9.aA :: a9.aA :: a9.aA :: a9.aA :: a9.aA :: a9.aA :: a9.aA :: a9.aA :: a9.aA :: a9.aA :: a9.aA :: a9.aA :: a9.aA :: a9.aA :: x89 :: a9.aA :: []) h n)
    (hR : ∀ (h : Hp) (n : Nat) (tm : List a9), R h → cT env 113 none Q ks .ret tm h n) :
    ∀ (m i : Nat) (h : Hp) (n : Nat) (x5 x6 x8 x14 x63 x67 x68 x69 x70 x89 : a9), i + m = A.made.length → P i h → Pm h id ((A.made.take i).map ptV) → id < n → bB h n →
      Run env 113 none Q (.loop BZ) ks (Y :: .ptr c 0 :: a9.aA :: .map id :: a9.aA :: x5 :: x6 :: a9.aA :: x8 :: a9.aA :: a9.aA :: mv :: .int .i64 (A.made.length : Nat) :: .int .i64 (i : Nat) :: x14 :: a9.aA :: a9.aA :: a9.aA :: a9.aA :: a9.aA :: a9.aA :: a9.aA :: a9.aA :: a9.aA :: a9.aA :: a9.aA :: a9.aA :: a9.aA :: a9.aA :: a9.aA :: a9.aA :: a9.aA :: a9.aA :: a9.aA :: a9.aA :: a9.aA :: a9.aA :: a9.aA :: a9.aA :: a9.aA :: a9.aA :: a9.aA :: a9.aA :: a9.aA :: a9.aA :: a9.aA :: a9.aA :: a9.aA :: a9.aA :: a9.aA :: a9.aA :: a9.aA :: a9.aA :: a9.aA :: a9.aA :: a9.aA :: a9.aA :: a9.aA :: a9.aA :: a9.aA :: a9.aA :: a9.aA :: a9.aA :: x63 :: a9.aA :: a9.aA :: a9.aA :: x67 :: x68 :: x69 :: x70 :: a9.aA :: a9.aA :: a9.aA :: a9.aA :: a9.aA :: a9.aA :: a9.aA :: a9.aA :: a9.aA :: a9.aA :: a9.aA :: a9.aA :: a9.aA :: a9.aA :: a9.aA :: a9.aA :: a9.aA :: a9.aA :: x89 :: a9.aA :: []) h n := by
  intro m
  induction m with
  | zero =>
    intro i h n x5 x6 x8 x14 x63 x67 x68 x69 x70 x89 hm hp hmp hin hf
    have : i = A.made.length := by omega
    subst this
    rw [bT]
    have hcc : ¬ (((A.made.length : Nat) : Int) < ((A.made.length : Nat) : Int)) := by omega
    simp only [BZ, bD, Try.f113, Option.getD_some, fgr, bor, List.getD_cons_zero, hcc, gE]
    rw [List.take_length] at hmp
    exact hT h n _ _ _ _ _ _ _ _ _ _ hp hmp hin hf
  | succ m ih =>
    intro i h n x5 x6 x8 x14 x63 x67 x68 x69 x70 x89 hm hp hmp hin hf
    obtain ⟨hrc, ha⟩ := hP i h hp
    have hil : i < A.made.length := by omega
    have hcc : (((i : Nat) : Int) < ((A.made.length : Nat) : Int)) := by omega
    have w1 : IntKind.i64.wrap (((i : Nat) : Int) + 1) = ((i + 1 : Nat) : Int) := by rw [w64 (by omega) (by have := ha.ml; omega)]; omega
    obtain ⟨sw, va⟩ := ha.m.at_ hil
    have hge : A.made[i]? = some A.made[i] := List.getElem?_eq_getElem hil
    have hmay : JS A.bJ A.made i = (mB A.bJ A.made[i] && decide (kF ((A.made.take (i + 1)).map ptV) (ptV A.made[i]) = 1)) := by unfold JS; rw [hge]
    have htk : (A.made.take (i + 1)).map ptV = (A.made.take i).map ptV ++ [ptV A.made[i]] := by rw [jO hil, List.map_append]; rfl
    have hYi := hY i hil
    rw [hmay] at hYi
    generalize A.made[i] = v at *
    rw [bT]
    simp only [BZ, bD, Try.f113, Option.getD_some, fgr, bor, List.getD_cons_zero, hcc, gE]
    rw [aH (ha.m.idx hil)]
    simp only [gE]
    rw [aH (va.all n)]
    simp only [gE]
    rw [cC eR rfl]
    simp only [cel, gE]
    have kd := va.s.kind
    refine dF (v := .agg (aN v sw)) eR rfl (bR va.ok.h va.ok.b) (cU kd.2.1) hf fun H1 r1 p1 f1 => ?_
    replace r1 : Row H1 n (aN v sw) := r1
    have m1 : Pm H1 id ((A.made.take i).map ptV) := hmp.aO (p1 id (by omega))
    have hlen : ((A.made.take i).map ptV).length ≤ 1000000 := by rw [List.length_map, List.length_take]; have := ha.ml; omega
    simp only [bK, fgr, bQ, aJ]
    refine zZ (act := Ins.tZ) aB4 ?_
    unfold Ins.tZ
    refine HH (p := ptV v) rfl rfl rfl r1 (wT va.ok.h) va.ok.h m1 (by omega) fun H3 k3 m3 => ?_
    have e3 : ∀ j, j < n0 → H3 j = h j := fun j hj => by rw [k3 j (by omega), p1 j (by omega)]
    have p3 : P i H3 := hst i h H3 hp e3
    have r3 : Row H3 n (aN v sw) := r1.aO (k3 n (by omega))
    have f3 : bB H3 (n + 1) := fun j hj => by rw [k3 j (by omega)]; exact f1 j hj
    have bs3 : Bytes H3 sw v.aI := va.s.aO fun j q => e3 j (by have := va.sn j q; omega)
    obtain ⟨hrc3, ha3⟩ := hP i H3 p3
    rw [← htk] at m3
    simp only [tyr, aR, Ins.vJ, gE]
    rw [aH (fZ r3 va.ok)]
    simp only [tyr, aR, gE]
    rw [aH (uZ hrc3)]
    by_cases c1 : v.made = A.bJ
    rotate_left
    · have hfit : (mB A.bJ v && decide (kF ((A.made.take (i + 1)).map ptV) (ptV v) = 1)) = false := by simp [mB, c1]
      simp only [fgr, bor, bH, c1, gE]
      refine c9 ⟨rfl, ?_⟩
      simp only [tyr, aR, Nat.reduceAdd, gE]
      rw [aZ (j5 r3 va.ok)]
      simp only [bH, Nat.reduceAdd, gE]
      refine dC f3 (hYi (.bool false) H3 (n + 1) p3 (by omega) f3 (by rw [hfit])) fun v4 h4 n4 rr ww hn4 f4 ⟨hh, kk⟩ => ?_
      rcases hh with ⟨e4 | e4, hp4⟩ | ⟨e4 | e4, hr4⟩
      · subst e4
        simp only [fgr, bor, bZ, unOp, Nat.reduceAdd, gE]
        refine ⟨(by (try simp (disch := first | assumption | omega) only [cM, gF]); repeat' (first | rfl | exact (Bool.or_eq_true _ _).mpr (.inr rfl) | refine (Bool.and_eq_true _ _).mpr ⟨?_, ?_⟩)), ?_⟩
        simp only [w1]
        exact ih (i + 1) h4 n4 _ _ _ _ _ _ _ _ _ _ (by omega) hp4 (m3.aO (kk id hid (by omega))) (by omega) f4
      · subst e4
        simp only [fgr, bor, bZ, unOp, Nat.reduceAdd, gE]
        refine ⟨(by (try simp (disch := first | assumption | omega) only [cM, gF]); repeat' (first | rfl | exact (Bool.or_eq_true _ _).mpr (.inr rfl) | refine (Bool.and_eq_true _ _).mpr ⟨?_, ?_⟩)), ?_⟩
        simp only [w1]
        exact ih (i + 1) h4 n4 _ _ _ _ _ _ _ _ _ _ (by omega) hp4 (m3.aO (kk id hid (by omega))) (by omega) f4
      · subst e4
        simp only [fgr, unOp, Nat.reduceAdd, gE]
        exact ⟨(by (try simp (disch := first | assumption | omega) only [cM, gF]); repeat' (first | rfl | exact (Bool.or_eq_true _ _).mpr (.inr rfl) | refine (Bool.and_eq_true _ _).mpr ⟨?_, ?_⟩)), hR h4 n4 _ hr4⟩
      · subst e4
        simp only [fgr, unOp, Nat.reduceAdd, gE]
        exact ⟨(by (try simp (disch := first | assumption | omega) only [cM, gF]); repeat' (first | rfl | exact (Bool.or_eq_true _ _).mpr (.inr rfl) | refine (Bool.and_eq_true _ _).mpr ⟨?_, ?_⟩)), hR h4 n4 _ hr4⟩
    simp only [tyr, bor, aR, c1, gE]
    rw [aH (dN r3 va.ok)]
    by_cases c2 : v.c8 = 0
    rotate_left
    · have hfit : (mB A.bJ v && decide (kF ((A.made.take (i + 1)).map ptV) (ptV v) = 1)) = false := by simp [mB, c2]
      simp only [fgr, bor, bH, c2, gE]
      refine c9 ⟨rfl, ?_⟩
      simp only [tyr, aR, Nat.reduceAdd, gE]
      rw [aZ (j5 r3 va.ok)]
      simp only [bH, Nat.reduceAdd, gE]
      refine dC f3 (hYi (.bool false) H3 (n + 1) p3 (by omega) f3 (by rw [hfit])) fun v4 h4 n4 rr ww hn4 f4 ⟨hh, kk⟩ => ?_
      rcases hh with ⟨e4 | e4, hp4⟩ | ⟨e4 | e4, hr4⟩
      · subst e4
        simp only [fgr, bor, bZ, unOp, Nat.reduceAdd, gE]
        refine ⟨(by (try simp (disch := first | assumption | omega) only [cM, gF]); repeat' (first | rfl | exact (Bool.or_eq_true _ _).mpr (.inr rfl) | refine (Bool.and_eq_true _ _).mpr ⟨?_, ?_⟩)), ?_⟩
        simp only [w1]
        exact ih (i + 1) h4 n4 _ _ _ _ _ _ _ _ _ _ (by omega) hp4 (m3.aO (kk id hid (by omega))) (by omega) f4
      · subst e4
        simp only [fgr, bor, bZ, unOp, Nat.reduceAdd, gE]
        refine ⟨(by (try simp (disch := first | assumption | omega) only [cM, gF]); repeat' (first | rfl | exact (Bool.or_eq_true _ _).mpr (.inr rfl) | refine (Bool.and_eq_true _ _).mpr ⟨?_, ?_⟩)), ?_⟩
        simp only [w1]
        exact ih (i + 1) h4 n4 _ _ _ _ _ _ _ _ _ _ (by omega) hp4 (m3.aO (kk id hid (by omega))) (by omega) f4
      · subst e4
        simp only [fgr, unOp, Nat.reduceAdd, gE]
        exact ⟨(by (try simp (disch := first | assumption | omega) only [cM, gF]); repeat' (first | rfl | exact (Bool.or_eq_true _ _).mpr (.inr rfl) | refine (Bool.and_eq_true _ _).mpr ⟨?_, ?_⟩)), hR h4 n4 _ hr4⟩
      · subst e4
        simp only [fgr, unOp, Nat.reduceAdd, gE]
        exact ⟨(by (try simp (disch := first | assumption | omega) only [cM, gF]); repeat' (first | rfl | exact (Bool.or_eq_true _ _).mpr (.inr rfl) | refine (Bool.and_eq_true _ _).mpr ⟨?_, ?_⟩)), hR h4 n4 _ hr4⟩
    simp only [tyr, bor, bH, aR, c2, gE]
    rw [aH (WU r3 va.ok)]
    have heq := ax6 v.by_ z32 va.ok.b rfl
    by_cases c3 : v.by_ = z32
    rotate_left
    · have hfit : (mB A.bJ v && decide (kF ((A.made.take (i + 1)).map ptV) (ptV v) = 1)) = false := by simp [mB, c3]
      rw [decide_eq_false c3] at heq
      simp only [fgr, bH, b25, heq, gE]
      refine c9 ⟨rfl, ?_⟩
      simp only [tyr, aR, Nat.reduceAdd, gE]
      rw [aZ (j5 r3 va.ok)]
      simp only [bH, Nat.reduceAdd, gE]
      refine dC f3 (hYi (.bool false) H3 (n + 1) p3 (by omega) f3 (by rw [hfit])) fun v4 h4 n4 rr ww hn4 f4 ⟨hh, kk⟩ => ?_
      rcases hh with ⟨e4 | e4, hp4⟩ | ⟨e4 | e4, hr4⟩
      · subst e4
        simp only [fgr, bor, bZ, unOp, Nat.reduceAdd, gE]
        refine ⟨(by (try simp (disch := first | assumption | omega) only [cM, gF]); repeat' (first | rfl | exact (Bool.or_eq_true _ _).mpr (.inr rfl) | refine (Bool.and_eq_true _ _).mpr ⟨?_, ?_⟩)), ?_⟩
        simp only [w1]
        exact ih (i + 1) h4 n4 _ _ _ _ _ _ _ _ _ _ (by omega) hp4 (m3.aO (kk id hid (by omega))) (by omega) f4
      · subst e4
        simp only [fgr, bor, bZ, unOp, Nat.reduceAdd, gE]
        refine ⟨(by (try simp (disch := first | assumption | omega) only [cM, gF]); repeat' (first | rfl | exact (Bool.or_eq_true _ _).mpr (.inr rfl) | refine (Bool.and_eq_true _ _).mpr ⟨?_, ?_⟩)), ?_⟩
        simp only [w1]
        exact ih (i + 1) h4 n4 _ _ _ _ _ _ _ _ _ _ (by omega) hp4 (m3.aO (kk id hid (by omega))) (by omega) f4
      · subst e4
        simp only [fgr, unOp, Nat.reduceAdd, gE]
        exact ⟨(by (try simp (disch := first | assumption | omega) only [cM, gF]); repeat' (first | rfl | exact (Bool.or_eq_true _ _).mpr (.inr rfl) | refine (Bool.and_eq_true _ _).mpr ⟨?_, ?_⟩)), hR h4 n4 _ hr4⟩
      · subst e4
        simp only [fgr, unOp, Nat.reduceAdd, gE]
        exact ⟨(by (try simp (disch := first | assumption | omega) only [cM, gF]); repeat' (first | rfl | exact (Bool.or_eq_true _ _).mpr (.inr rfl) | refine (Bool.and_eq_true _ _).mpr ⟨?_, ?_⟩)), hR h4 n4 _ hr4⟩
    rw [decide_eq_true c3] at heq
    simp only [tyr, bH, aR, b25, heq, gE]
    rw [aH (mU r3 va.ok)]
    simp only [gE]
    refine dJ (f100 v.value H3 (n + 1)) ?_
    cases c4 : kM v.value with
    | false =>
      have hfit : (mB A.bJ v && decide (kF ((A.made.take (i + 1)).map ptV) (ptV v) = 1)) = false := by simp [mB, c4]
      simp only [fgr, bH, gE]
      refine c9 ⟨rfl, ?_⟩
      simp only [tyr, aR, Nat.reduceAdd, gE]
      rw [aZ (j5 r3 va.ok)]
      simp only [bH, Nat.reduceAdd, gE]
      refine dC f3 (hYi (.bool false) H3 (n + 1) p3 (by omega) f3 (by rw [hfit])) fun v4 h4 n4 rr ww hn4 f4 ⟨hh, kk⟩ => ?_
      rcases hh with ⟨e4 | e4, hp4⟩ | ⟨e4 | e4, hr4⟩
      · subst e4
        simp only [fgr, bor, bZ, unOp, Nat.reduceAdd, gE]
        refine ⟨(by (try simp (disch := first | assumption | omega) only [cM, gF]); repeat' (first | rfl | exact (Bool.or_eq_true _ _).mpr (.inr rfl) | refine (Bool.and_eq_true _ _).mpr ⟨?_, ?_⟩)), ?_⟩
        simp only [w1]
        exact ih (i + 1) h4 n4 _ _ _ _ _ _ _ _ _ _ (by omega) hp4 (m3.aO (kk id hid (by omega))) (by omega) f4
      · subst e4
        simp only [fgr, bor, bZ, unOp, Nat.reduceAdd, gE]
        refine ⟨(by (try simp (disch := first | assumption | omega) only [cM, gF]); repeat' (first | rfl | exact (Bool.or_eq_true _ _).mpr (.inr rfl) | refine (Bool.and_eq_true _ _).mpr ⟨?_, ?_⟩)), ?_⟩
        simp only [w1]
        exact ih (i + 1) h4 n4 _ _ _ _ _ _ _ _ _ _ (by omega) hp4 (m3.aO (kk id hid (by omega))) (by omega) f4
      · subst e4
        simp only [fgr, unOp, Nat.reduceAdd, gE]
        exact ⟨(by (try simp (disch := first | assumption | omega) only [cM, gF]); repeat' (first | rfl | exact (Bool.or_eq_true _ _).mpr (.inr rfl) | refine (Bool.and_eq_true _ _).mpr ⟨?_, ?_⟩)), hR h4 n4 _ hr4⟩
      · subst e4
        simp only [fgr, unOp, Nat.reduceAdd, gE]
        exact ⟨(by (try simp (disch := first | assumption | omega) only [cM, gF]); repeat' (first | rfl | exact (Bool.or_eq_true _ _).mpr (.inr rfl) | refine (Bool.and_eq_true _ _).mpr ⟨?_, ?_⟩)), hR h4 n4 _ hr4⟩
    | true =>
    simp only [tyr, bH, aR, gE]
    rw [aH (j4 r3 va.ok)]
    simp only [fgr, builtin, bor, bH, bs3.cA t29, gE]
    by_cases c5 : (v.aI.length : Nat) ≤ 2000
    rotate_left
    · have hfit : (mB A.bJ v && decide (kF ((A.made.take (i + 1)).map ptV) (ptV v) = 1)) = false := by simp [mB]; omega
      have c5' : ¬ (((v.aI.length : Nat) : Int) ≤ 2000) := by omega
      simp only [decide_false, c5']
      refine c9 ⟨rfl, ?_⟩
      simp only [tyr, aR, Nat.reduceAdd, gE]
      rw [aZ (j5 r3 va.ok)]
      simp only [bH, Nat.reduceAdd, gE]
      refine dC f3 (hYi (.bool false) H3 (n + 1) p3 (by omega) f3 (by rw [hfit])) fun v4 h4 n4 rr ww hn4 f4 ⟨hh, kk⟩ => ?_
      rcases hh with ⟨e4 | e4, hp4⟩ | ⟨e4 | e4, hr4⟩
      · subst e4
        simp only [fgr, bor, bZ, unOp, Nat.reduceAdd, gE]
        refine ⟨(by (try simp (disch := first | assumption | omega) only [cM, gF]); repeat' (first | rfl | exact (Bool.or_eq_true _ _).mpr (.inr rfl) | refine (Bool.and_eq_true _ _).mpr ⟨?_, ?_⟩)), ?_⟩
        simp only [w1]
        exact ih (i + 1) h4 n4 _ _ _ _ _ _ _ _ _ _ (by omega) hp4 (m3.aO (kk id hid (by omega))) (by omega) f4
      · subst e4
        simp only [fgr, bor, bZ, unOp, Nat.reduceAdd, gE]
        refine ⟨(by (try simp (disch := first | assumption | omega) only [cM, gF]); repeat' (first | rfl | exact (Bool.or_eq_true _ _).mpr (.inr rfl) | refine (Bool.and_eq_true _ _).mpr ⟨?_, ?_⟩)), ?_⟩
        simp only [w1]
        exact ih (i + 1) h4 n4 _ _ _ _ _ _ _ _ _ _ (by omega) hp4 (m3.aO (kk id hid (by omega))) (by omega) f4
      · subst e4
        simp only [fgr, unOp, Nat.reduceAdd, gE]
        exact ⟨(by (try simp (disch := first | assumption | omega) only [cM, gF]); repeat' (first | rfl | exact (Bool.or_eq_true _ _).mpr (.inr rfl) | refine (Bool.and_eq_true _ _).mpr ⟨?_, ?_⟩)), hR h4 n4 _ hr4⟩
      · subst e4
        simp only [fgr, unOp, Nat.reduceAdd, gE]
        exact ⟨(by (try simp (disch := first | assumption | omega) only [cM, gF]); repeat' (first | rfl | exact (Bool.or_eq_true _ _).mpr (.inr rfl) | refine (Bool.and_eq_true _ _).mpr ⟨?_, ?_⟩)), hR h4 n4 _ hr4⟩
    have c5' : (((v.aI.length : Nat) : Int) ≤ 2000) := by omega
    have hfit : mB A.bJ v = true := by simp [mB, c1, c2, c3, c4, c5]
    simp only [decide_true, c5']
    refine c9 ⟨rfl, ?_⟩
    simp only [tyr, aR, Nat.reduceAdd, gE]
    rw [aZ (j5 r3 va.ok)]
    simp only [tyr, aR, Nat.reduceAdd, gE]
    rw [aZ (j5 r3 va.ok)]
    have hlk : Rd (iN env 161 (.map id) (.agg (aV v.aP v.pn)) false) H3 (n + 1) [id] _ := m3.lookup (p := ptV v) va.ok.h
    simp only [Nat.reduceAdd, gE]
    rw [aZ hlk]
    have ecnt : decide (((kF ((A.made.take (i + 1)).map ptV) (ptV v) : Nat) : Int) = 1) = decide (kF ((A.made.take (i + 1)).map ptV) (ptV v) = 1) := by
      rw [decide_eq_decide]; omega
    simp only [bor, bH, Nat.reduceAdd, ecnt, gE]
    refine dC f3 (hYi (.bool (decide (kF ((A.made.take (i + 1)).map ptV) (ptV v) = 1))) H3 (n + 1) p3 (by omega) f3 (by rw [hfit, Bool.true_and])) fun v4 h4 n4 rr ww hn4 f4 ⟨hh, kk⟩ => ?_
    rcases hh with ⟨e4 | e4, hp4⟩ | ⟨e4 | e4, hr4⟩
    · subst e4
      simp only [fgr, bor, bZ, unOp, Nat.reduceAdd, gE]
      refine ⟨(by (try simp (disch := first | assumption | omega) only [cM, gF]); repeat' (first | rfl | exact (Bool.or_eq_true _ _).mpr (.inr rfl) | refine (Bool.and_eq_true _ _).mpr ⟨?_, ?_⟩)), ?_⟩
      simp only [w1]
      exact ih (i + 1) h4 n4 _ _ _ _ _ _ _ _ _ _ (by omega) hp4 (m3.aO (kk id hid (by omega))) (by omega) f4
    · subst e4
      simp only [fgr, bor, bZ, unOp, Nat.reduceAdd, gE]
      refine ⟨(by (try simp (disch := first | assumption | omega) only [cM, gF]); repeat' (first | rfl | exact (Bool.or_eq_true _ _).mpr (.inr rfl) | refine (Bool.and_eq_true _ _).mpr ⟨?_, ?_⟩)), ?_⟩
      simp only [w1]
      exact ih (i + 1) h4 n4 _ _ _ _ _ _ _ _ _ _ (by omega) hp4 (m3.aO (kk id hid (by omega))) (by omega) f4
    · subst e4
      simp only [fgr, unOp, Nat.reduceAdd, gE]
      exact ⟨(by (try simp (disch := first | assumption | omega) only [cM, gF]); repeat' (first | rfl | exact (Bool.or_eq_true _ _).mpr (.inr rfl) | refine (Bool.and_eq_true _ _).mpr ⟨?_, ?_⟩)), hR h4 n4 _ hr4⟩
    · subst e4
      simp only [fgr, unOp, Nat.reduceAdd, gE]
      exact ⟨(by (try simp (disch := first | assumption | omega) only [cM, gF]); repeat' (first | rfl | exact (Bool.or_eq_true _ _).mpr (.inr rfl) | refine (Bool.and_eq_true _ _).mpr ⟨?_, ?_⟩)), hR h4 n4 _ hr4⟩
theorem JT (Q : dG) (ks : List Kf) (Y mv sv : a9) (c id a b n0 : Nat) (A : App) (hid : n0 ≤ id) (hc : c < n0) (hb : b ≤ n0)
    (P : Nat → Hp → Prop) (R : Hp → Prop)
    (hP : ∀ k h, P k h → Row h c (aX A mv sv) ∧ jN h a b A mv sv)
    (hst : ∀ k h h', P k h → (∀ j, j < n0 → h' j = h j) → P k h')
    (hY : ∀ (k : Nat) (hk : k < A.bN.length) (w : a9) (h : Hp) (n : Nat), P (A.made.length + k) h → n0 ≤ n → bB h n → w = .bool (NT A.bN k) → Wp (jH env (aE env) Y [ptA (ptS A.bN[k]), w]) h n fun v' h' n' => ((yes true v' ∧ P (A.made.length + k + 1) h') ∨ (yes false v' ∧ R h')) ∧ ∀ j, n0 ≤ j → j < n → h' j = h j)
    (hT : ∀ (h : Hp) (n : Nat) (tm : List a9), P (A.made.length + A.bN.length) h → cT env 113 none Q ks (.exit 2) tm h n)
    (hR : ∀ (h : Hp) (n : Nat) (tm : List a9), R h → cT env 113 none Q ks .ret tm h n) :
    ∀ (m i : Nat) (h : Hp) (n : Nat) (x1 x5 x6 x8 x11 x12 x13 x14 x63 x70 x89 : a9), i + m = A.bN.length → P (A.made.length + i) h → Pm h id ((A.bN.take i).map ptS) → id < n → bB h n →
      Run env 113 none Q (.loop BY) ks (Y :: x1 :: a9.aA :: .map id :: a9.aA :: x5 :: x6 :: a9.aA :: x8 :: a9.aA :: a9.aA :: x11 :: x12 :: x13 :: x14 :: a9.aA :: a9.aA :: a9.aA :: a9.aA :: a9.aA :: a9.aA :: a9.aA :: a9.aA :: a9.aA :: a9.aA :: a9.aA :: a9.aA :: a9.aA :: a9.aA :: a9.aA :: a9.aA :: a9.aA :: a9.aA :: a9.aA :: a9.aA :: a9.aA :: a9.aA :: a9.aA :: a9.aA :: a9.aA :: a9.aA :: a9.aA :: a9.aA :: a9.aA :: a9.aA :: a9.aA :: a9.aA :: a9.aA :: a9.aA :: a9.aA :: a9.aA :: a9.aA :: a9.aA :: a9.aA :: a9.aA :: a9.aA :: a9.aA :: a9.aA :: a9.aA :: a9.aA :: a9.aA :: a9.aA :: a9.aA :: x63 :: a9.aA :: a9.aA :: a9.aA :: sv :: .int .i64 (A.bN.length : Nat) :: .int .i64 (i : Nat) :: x70 :: a9.aA :: a9.aA :: a9.aA :: a9.aA :: a9.aA :: a9.aA :: a9.aA :: a9.aA :: a9.aA :: a9.aA :: a9.aA :: a9.aA :: a9.aA :: a9.aA :: a9.aA :: a9.aA :: a9.aA :: a9.aA :: x89 :: a9.aA :: []) h n := by
  intro m
  induction m with
  | zero =>
    intro i h n x1 x5 x6 x8 x11 x12 x13 x14 x63 x70 x89 hm hp hmp hin hf
    have : i = A.bN.length := by omega
    subst this
    rw [bT]
    have hcc : ¬ (((A.bN.length : Nat) : Int) < ((A.bN.length : Nat) : Int)) := by omega
    simp only [BY, bD, Try.f113, Option.getD_some, fgr, bor, List.getD_cons_zero, List.getD_cons_succ, hcc, gE]
    exact hT h n _ hp
  | succ m ih =>
    intro i h n x1 x5 x6 x8 x11 x12 x13 x14 x63 x70 x89 hm hp hmp hin hf
    obtain ⟨hrc, ha⟩ := hP _ h hp
    have hil : i < A.bN.length := by omega
    have hcc : (((i : Nat) : Int) < ((A.bN.length : Nat) : Int)) := by omega
    have w1 : IntKind.i64.wrap (((i : Nat) : Int) + 1) = ((i + 1 : Nat) : Int) := by rw [w64 (by omega) (by have := ha.sl; omega)]; omega
    obtain ⟨ok, hld⟩ := ha.s.all (n := n) hil
    have hge : A.bN[i]? = some A.bN[i] := List.getElem?_eq_getElem hil
    have hmay : NT A.bN i = decide (kF ((A.bN.take (i + 1)).map ptS) (ptS A.bN[i]) = 1) := by unfold NT; rw [hge]
    have htk : (A.bN.take (i + 1)).map ptS = (A.bN.take i).map ptS ++ [ptS A.bN[i]] := by rw [jO hil, List.map_append]; rfl
    have hYi := hY i hil
    rw [hmay] at hYi
    generalize A.bN[i] = v at *
    rw [bT]
    simp only [BY, bD, Try.f113, Option.getD_some, fgr, bor, List.getD_cons_zero, List.getD_cons_succ, hcc, gE]
    rw [aH (ha.s.idx hil)]
    simp only [gE]
    rw [aH hld]
    simp only [gE]
    rw [cC z6 rfl]
    simp only [cel, gE]
    refine dF (v := .agg (eC v)) z6 rfl (lK ok) (rO v) hf fun H1 r1 p1 f1 => ?_
    replace r1 : Row H1 n (eC v) := r1
    have m1 : Pm H1 id ((A.bN.take i).map ptS) := hmp.aO (p1 id (by omega))
    have hlen : ((A.bN.take i).map ptS).length ≤ 1000000 := by rw [List.length_map, List.length_take]; have := ha.sl; omega
    simp only [bK, fgr, bQ, aJ]
    refine zZ (act := Ins.qQ) al6 ?_
    unfold Ins.qQ
    refine HH (p := ptS v) rfl rfl rfl r1 (MD ok) ok.h m1 (by omega) fun H3 k3 m3 => ?_
    have e3 : ∀ j, j < n0 → H3 j = h j := fun j hj => by rw [k3 j (by omega), p1 j (by omega)]
    have p3 : P (A.made.length + i) H3 := hst _ h H3 hp e3
    have r3 : Row H3 n (eC v) := r1.aO (k3 n (by omega))
    have f3 : bB H3 (n + 1) := fun j hj => by rw [k3 j (by omega)]; exact f1 j hj
    rw [← htk] at m3
    simp only [bK, put, Ins.vJ]
    refine c9 ⟨rfl, ?_⟩
    simp only [tyr, aR, Nat.reduceAdd, gE]
    rw [aZ (wD r3 ok)]
    simp only [tyr, aR, Nat.reduceAdd, gE]
    rw [aZ (wD r3 ok)]
    have hlk : Rd (iN env 161 (.map id) (.agg (aV v.aP v.pn)) false) H3 (n + 1) [id] _ := m3.lookup (p := ptS v) ok.h
    simp only [Nat.reduceAdd, gE]
    rw [aZ hlk]
    have ecnt : decide (((kF ((A.bN.take (i + 1)).map ptS) (ptS v) : Nat) : Int) = 1) = decide (kF ((A.bN.take (i + 1)).map ptS) (ptS v) = 1) := by
      rw [decide_eq_decide]; omega
    simp only [bor, Nat.reduceAdd, ecnt, gE]
    refine dC f3 (hYi (.bool (decide (kF ((A.bN.take (i + 1)).map ptS) (ptS v) = 1))) H3 (n + 1) p3 (by omega) f3 rfl) fun v4 h4 n4 rr ww hn4 f4 ⟨hh, kk⟩ => ?_
    rcases hh with ⟨e4 | e4, hp4⟩ | ⟨e4 | e4, hr4⟩
    · subst e4
      simp only [fgr, bor, bZ, unOp, Nat.reduceAdd, gE]
      refine ⟨(by (try simp (disch := first | assumption | omega) only [cM, gF]); repeat' (first | rfl | exact (Bool.or_eq_true _ _).mpr (.inr rfl) | refine (Bool.and_eq_true _ _).mpr ⟨?_, ?_⟩)), ?_⟩
      simp only [w1]
      exact ih (i + 1) h4 n4 _ _ _ _ _ _ _ _ _ _ _ (by omega) hp4 (m3.aO (kk id hid (by omega))) (by omega) f4
    · subst e4
      simp only [fgr, bor, bZ, unOp, Nat.reduceAdd, gE]
      refine ⟨(by (try simp (disch := first | assumption | omega) only [cM, gF]); repeat' (first | rfl | exact (Bool.or_eq_true _ _).mpr (.inr rfl) | refine (Bool.and_eq_true _ _).mpr ⟨?_, ?_⟩)), ?_⟩
      simp only [w1]
      exact ih (i + 1) h4 n4 _ _ _ _ _ _ _ _ _ _ _ (by omega) hp4 (m3.aO (kk id hid (by omega))) (by omega) f4
    · subst e4
      simp only [fgr, unOp, Nat.reduceAdd, gE]
      exact ⟨(by (try simp (disch := first | assumption | omega) only [cM, gF]); repeat' (first | rfl | exact (Bool.or_eq_true _ _).mpr (.inr rfl) | refine (Bool.and_eq_true _ _).mpr ⟨?_, ?_⟩)), hR h4 n4 _ hr4⟩
    · subst e4
      simp only [fgr, unOp, Nat.reduceAdd, gE]
      exact ⟨(by (try simp (disch := first | assumption | omega) only [cM, gF]); repeat' (first | rfl | exact (Bool.or_eq_true _ _).mpr (.inr rfl) | refine (Bool.and_eq_true _ _).mpr ⟨?_, ?_⟩)), hR h4 n4 _ hr4⟩
theorem f113 (Y mv sv : a9) (c a b : Nat) (A : App) (h : Hp) (n : Nat) (hc : c < n) (hb : b ≤ n) (hf : bB h n)
    (P : Nat → Hp → Prop) (R : Hp → Prop) (h0 : P 0 h)
    (hP : ∀ k h, P k h → Row h c (aX A mv sv) ∧ jN h a b A mv sv)
    (hst : ∀ k h h', P k h → (∀ j, j < n → h' j = h j) → P k h')
    (hsr : ∀ h h', R h → (∀ j, j < n → h' j = h j) → R h')
    (hY1 : ∀ (k : Nat) (hk : k < A.made.length) (w : a9) (h' : Hp) (n' : Nat), P k h' → n ≤ n' → bB h' n' → w = .bool (JS A.bJ A.made k) → Wp (jH env (aE env) Y [ptA (ptV A.made[k]), w]) h' n' fun v1 h1 n1 => ((yes true v1 ∧ P (k + 1) h1) ∨ (yes false v1 ∧ R h1)) ∧ ∀ j, n ≤ j → j < n' → h1 j = h' j)
    (hY2 : ∀ (k : Nat) (hk : k < A.bN.length) (w : a9) (h' : Hp) (n' : Nat), P (A.made.length + k) h' → n ≤ n' → bB h' n' → w = .bool (NT A.bN k) → Wp (jH env (aE env) Y [ptA (ptS A.bN[k]), w]) h' n' fun v1 h1 n1 => ((yes true v1 ∧ P (A.made.length + k + 1) h1) ∨ (yes false v1 ∧ R h1)) ∧ ∀ j, n ≤ j → j < n' → h1 j = h' j) :
    Wp (aQ env (aE env) 113 [Y, .ptr c 0]) h n fun v' h' n' => v' = .tup [] ∧ (P (A.made.length + A.bN.length) h' ∨ R h') := by
  obtain ⟨hrc, ha⟩ := hP 0 h h0
  refine aW av5 aq6 ?_
  simp only [OV, Try.f113, Option.getD_some, List.replicate, tyr, fgr, opt, aR, Nat.reduceAdd, Nat.reduceSub, pD, opt, nT, gE]
  obtain ⟨H1, hH1⟩ : ∃ H1, H1 = upd h n (some (Blk.map [] 0)) := ⟨_, rfl⟩
  rw [← hH1]
  have o1 : ∀ j, j < n → H1 j = h j := fun j hj => by rw [hH1, aK _ _ (by omega)]
  have m1 : Pm H1 n [] := Pm.new (by rw [hH1, aM])
  have f1 : bB H1 (n + 1) := by rw [hH1]; exact hf.new
  clear hH1
  have p1 := hst 0 h H1 h0 o1
  obtain ⟨hrc1, ha1⟩ := hP 0 H1 p1
  rw [aH (mO hrc1 ha1.b)]
  simp only [fgr, builtin, ha1.m.len, gE]
  refine JU _ _ Y mv sv c n a b n A (Nat.le_refl _) hc hb P R hP hst hsr hY1 ?_ ?_ A.made.length 0 H1 (n + 1) _ _ _ _ _ _ _ _ _ _ (by omega) p1 m1 (by omega) f1
  · intro h2 n2 x5 x6 x8 x14 x63 x67 x68 x69 x70 x89 p2 m2 hn2 f2
    simp only [builtin, gE]
    obtain ⟨H3, w3, k3, m3⟩ := m2.clear (n := n2)
    rw [dE w3]
    have p3 := hst _ h2 H3 p2 fun j hj => k3 j (by omega)
    have f3 : bB H3 n2 := fun j hj => by rw [k3 j (by omega)]; exact f2 j hj
    obtain ⟨hrc3, ha3⟩ := hP _ H3 p3
    simp only [tyr, fgr, aR, gE]
    rw [aH (uY hrc3 ha3.b)]
    simp only [fgr, builtin, ha3.s.len, gE]
    refine JT _ _ Y mv sv c n a b n A (Nat.le_refl _) hc hb P R hP hst hY2 ?_ ?_ A.bN.length 0 H3 n2 _ _ _ _ _ _ _ _ _ _ _ (by omega) p3 m3 hn2 f3
    · intro h4 n4 tm p4
      simp only [bK, true_and]
      exact .inl p4
    · intro h4 n4 tm r4
      simp only [bK, true_and]
      exact .inr r4
  · intro h4 n4 tm r4
    simp only [bK, true_and]
    exact .inr r4
def bs (b : Bool) (v : a9) : a9 := match b with
  | true => v
  | false => undef
section
variable {E : Env} {fn : FuncId} {rnd : Option Nat} {Q : dG} {ks : List Kf} {tm : List a9} {h : Hp} {n : Nat} {ops rest : List Oper} {d : Option Tmp}
theorem j6 {b : Bool} {op : Op} {v : a9} (hr : b = true → Wp (execOp E (aE E) tm op) h n fun v' h' n' => v' = v ∧ h' = h ∧ n' = n) (hq : Ops E fn rnd Q ks ops rest (bQ tm d (bs b v)) h n) : OpG E fn rnd Q ks ops rest d tm op true (.fQ b) h n := by
  cases b with
  | true => rw [NC]; exact dJ (hr rfl) hq
  | false => rw [ND]; exact hq
theorem mX {b m : Bool} : OpV E fn rnd Q ks ops rest d tm (bH (.bool b) (bs b (.bool m)) (.bool false)) h n ↔ Ops E fn rnd Q ks ops rest (bQ tm d (.bool (b && m))) h n := by
  cases b <;> simp only [bs, bH, branch, BK, mW, Bool.true_and, Bool.false_and]
end
theorem jX {A : App} {mv sv : a9} (h1 : bC mv = true) (h2 : bC sv = true) : (aX A mv sv).all bC = true := by
  unfold aX
  rw [List.all_cons, List.all_append]
  simp only [List.all_cons, List.all_nil, h1, h2, Bool.and_true, Bool.true_and]
  rw [List.all_map]
  simp [u8, bC]
theorem f101 (A : App) (mv sv : a9) (h : Hp) (n : Nat) (hf : bB h n) : Wp (aQ env (aE env) 101 [.agg (aX A mv sv)]) h n fun v' h' n' => v' = .fn (.func 113) [] [.ptr n 0] ∧ Row h' n (aX A mv sv) ∧ (∀ j, j ≠ n → h' j = h j) ∧ n' = n + 1 := by
  refine aW aw4 ar5 ?_
  simp only [P4, Try.f101, Option.getD_some, List.replicate, Nat.reduceSub, gE]
  refine cX (v := .agg (aX A mv sv)) mA rfl hf fun H1 r1 o1 f1 => ?_
  simp only [fgr, gE]
  exact ⟨r1, o1⟩
def xR (A : App) (k : Nat) : Bool := if k < A.made.length then JS A.bJ A.made k else NT A.bN (k - A.made.length)
def OQ (A : App) : Bool := wK A.bJ && kM A.dX && kM A.left && decide (A.made.length ≤ 5000) && decide (A.bN.length ≤ 5000)
def iQ (A : App) (k : Nat) : Bool := OQ A && (List.range k).all (xR A)
def lZ (A : App) : Bool := iQ A (A.made.length + A.bN.length)
theorem TJ (A : App) : iQ A 0 = OQ A := by simp [iQ]
theorem IF (A : App) (k : Nat) : iQ A (k + 1) = (iQ A k && xR A k) := by
  unfold iQ
  rw [List.range_succ, List.all_append]
  simp [Bool.and_assoc]
theorem P5 {A : App} {k : Nat} (h : iQ A k = false) (hk : k ≤ A.made.length + A.bN.length) : lZ A = false := by
  unfold lZ
  obtain ⟨d, hd⟩ := Nat.exists_eq_add_of_le hk
  rw [hd]
  clear hd hk
  induction d with
  | zero => exact h
  | succ d ih => rw [← Nat.add_assoc, IF, ih]; rfl
noncomputable def L67 (tm : List a9) : m9 := { state := .ready, pending := none, fn := 67, tmps := tm, params := [33, 34], assign := MV, body := MR }
theorem f67 (A : App) (mv sv : a9) (a b : Nat) (h : Hp) (n : Nat) (ha : jN h a b A mv sv) (hb : b ≤ n) (hf : bB h n) : Wp (aQ env (aE env) 67 [.agg (aX A mv sv)]) h n fun v' h' n' => v' = .int .i64 (if lZ A then 0 else 200) ∧ Old h h' n := by
  refine aW aT2 aJ4 ?_
  simp only [aa5, Try.f67, Option.getD_some, List.replicate, Nat.reduceSub, gE]
  refine cX (v := .agg (aX A mv sv)) mA rfl hf fun H1 r1 o1 f1 => ?_
  replace r1 : Row H1 n (aX A mv sv) := r1
  have a1 := ha.aO (h' := H1) fun j _ q => o1 j (by omega)
  simp only [tyr, fgr, aR, gE]
  rw [aH (uZ r1)]
  simp only [hkr, gE]
  refine dJ (f99 A.bJ H1 (n + 1)) ?_
  obtain ⟨b1, hb1⟩ : ∃ b, b = wK A.bJ := ⟨_, rfl⟩
  rw [← hb1]
  simp only [gE]
  refine j6 (v := .ptr n 35) (fun _ => aS.2 ⟨rfl, rfl, rfl⟩) ?_
  simp only [bK, bQ, put, nth, List.getElem?_cons_succ, List.getElem?_cons_zero]
  refine j6 (v := .int .i64 A.dX) (fun hb => by subst hb; exact (CP r1 ha.b).wp) ?_
  simp only [bK, bQ, put, nth, List.getElem?_cons_succ, List.getElem?_cons_zero]
  refine j6 (v := .bool (kM A.dX)) (fun hb => by subst hb; exact f100 A.dX H1 (n + 1)) ?_
  simp only [mX, gE]
  obtain ⟨b2, hb2⟩ : ∃ b, b = (b1 && kM A.dX) := ⟨_, rfl⟩
  rw [← hb2]
  refine j6 (v := .ptr n 36) (fun _ => aS.2 ⟨rfl, rfl, rfl⟩) ?_
  simp only [bK, bQ, put, nth, List.getElem?_cons_succ, List.getElem?_cons_zero]
  refine j6 (v := .int .i64 A.left) (fun hb => by subst hb; exact (CO r1 ha.b).wp) ?_
  simp only [bK, bQ, put, nth, List.getElem?_cons_succ, List.getElem?_cons_zero]
  refine j6 (v := .bool (kM A.left)) (fun hb => by subst hb; exact f100 A.left H1 (n + 1)) ?_
  simp only [mX, gE]
  obtain ⟨b3, hb3⟩ : ∃ b, b = (b2 && kM A.left) := ⟨_, rfl⟩
  rw [← hb3]
  refine j6 (v := .ptr n 33) (fun _ => aS.2 ⟨rfl, rfl, rfl⟩) ?_
  simp only [bK, bQ, put, nth, List.getElem?_cons_succ, List.getElem?_cons_zero]
  refine j6 (v := mv) (fun hb => by subst hb; exact (mO r1 ha.b).wp) ?_
  simp only [bK, bQ, put, nth, List.getElem?_cons_succ, List.getElem?_cons_zero]
  refine j6 (v := .int .i64 (A.made.length : Nat)) (fun hb => by subst hb; show Wp (cA env [43] mv) _ _ _; rw [a1.m.len]; exact aS.2 ⟨rfl, rfl, rfl⟩) ?_
  simp only [bK, bQ, put, nth, List.getElem?_cons_succ, List.getElem?_cons_zero]
  refine j6 (v := .bool (decide (((A.made.length : Nat) : Int) ≤ 5000))) (fun hb => by subst hb; exact aS.2 ⟨rfl, rfl, rfl⟩) ?_
  simp only [mX, gE]
  obtain ⟨b4, hb4⟩ : ∃ b, b = (b3 && decide (((A.made.length : Nat) : Int) ≤ 5000)) := ⟨_, rfl⟩
  rw [← hb4]
  refine j6 (v := .ptr n 34) (fun _ => aS.2 ⟨rfl, rfl, rfl⟩) ?_
  simp only [bK, bQ, put, nth, List.getElem?_cons_succ, List.getElem?_cons_zero]
  refine j6 (v := sv) (fun hb => by subst hb; exact (uY r1 ha.b).wp) ?_
  simp only [bK, bQ, put, nth, List.getElem?_cons_succ, List.getElem?_cons_zero]
  refine j6 (v := .int .i64 (A.bN.length : Nat)) (fun hb => by subst hb; show Wp (cA env [44] sv) _ _ _; rw [a1.s.len]; exact aS.2 ⟨rfl, rfl, rfl⟩) ?_
  simp only [bK, bQ, put, nth, List.getElem?_cons_succ, List.getElem?_cons_zero]
  refine j6 (v := .bool (decide (((A.bN.length : Nat) : Int) ≤ 5000))) (fun hb => by subst hb; exact aS.2 ⟨rfl, rfl, rfl⟩) ?_
  simp only [mX, gE]
  have hb5 : (b4 && decide (((A.bN.length : Nat) : Int) ≤ 5000)) = iQ A 0 := by
    rw [TJ, hb4, hb3, hb2, hb1]
    unfold OQ
    have q1 : decide (((A.made.length : Nat) : Int) ≤ 5000) = decide (A.made.length ≤ 5000) := by rw [decide_eq_decide]; omega
    have q2 : decide (((A.bN.length : Nat) : Int) ≤ 5000) = decide (A.bN.length ≤ 5000) := by rw [decide_eq_decide]; omega
    rw [q1, q2]
  rw [hb5]
  rw [cC ti4 rfl]
  simp only [cel, gE]
  refine dF (v := .bool (iQ A 0)) ti4 rfl rfl rfl f1 fun H2 r2 o2 f2 => ?_
  replace r2 : Row H2 (n + 1) [.bool (iQ A 0)] := r2
  have r12 := r1.aO (o2 n (by omega))
  simp only [fgr, gE]
  rw [aH (m8 r12 ha.b)]
  simp only [hkr, gE]
  refine aU f2 (f101 A mv sv H2 (n + 1 + 1) f2) fun v3 h3 n3 hn3 f3 ⟨e3, r3, o3, en3⟩ => ?_
  subst e3; subst en3
  simp only [bK, fgr, bQ, put, aJ]
  refine mT (g := 113) (first := []) (cap := [.ptr (n + 1 + 1) 0]) rfl rfl ?_
  let TM : List a9 := (.agg (aX A mv sv) :: .ptr n 0 :: .int .i64 0 :: .ptr (n + 1) 0 :: a9.aA :: undef :: a9.aA :: a9.aA :: a9.aA :: a9.aA :: a9.aA :: a9.aA :: a9.aA :: a9.aA :: a9.aA :: a9.aA :: a9.aA :: a9.aA :: a9.aA :: a9.aA :: a9.aA :: a9.aA :: a9.aA :: a9.aA :: a9.aA :: a9.aA :: a9.aA :: a9.aA :: a9.aA :: a9.aA :: a9.aA :: a9.aA :: .fn (.func 113) [] [.ptr (n + 1 + 1) 0] :: a9.aA :: undef :: a9.aA :: a9.aA :: a9.aA :: a9.aA :: a9.aA :: undef :: a9.aA :: undef :: [])
  obtain ⟨H4, hH4⟩ : ∃ H4, H4 = upd h3 (n + 1 + 1 + 1) (some (Blk.loop (L67 TM))) := ⟨_, rfl⟩
  show Wp (bM env (aE env) 113 [a9.fn (Fn.yield (n + 1 + 1 + 1)) [] [], a9.ptr (n + 1 + 1) 0]) (upd h3 (n + 1 + 1 + 1) (some (Blk.loop (L67 TM)))) (n + 1 + 1 + 1 + 1) _
  rw [UQ, ← hH4]
  have f4 : bB H4 (n + 1 + 1 + 1 + 1) := by rw [hH4]; exact f3.new
  have o4 : ∀ j, j ≠ n + 1 + 1 + 1 → H4 j = h3 j := fun j hj => by rw [hH4, aK _ _ hj]
  have g4 : H4 (n + 1 + 1 + 1) = some (.loop (L67 TM)) := by rw [hH4, aM]
  clear hH4
  have old4 : ∀ j, j < n → H4 j = h j := fun j hj => by rw [o4 j (by omega), o3 j (by omega), o2 j (by omega), o1 j (by omega)]
  have a4 : jN H4 a b A mv sv := ha.aO fun j _ q => old4 j (by omega)
  have r4 : Row H4 (n + 1) [.bool (iQ A 0)] := (r2.aO (o3 _ (by omega))).aO (o4 _ (by omega))
  have rc4 : Row H4 (n + 1 + 1) (aX A mv sv) := r3.aO (o4 _ (by omega))
  have step : ∀ (k : Nat) (w pv : a9) (h1 : Hp) (n1 : Nat), k < A.made.length + A.bN.length → Row h1 (n + 1) [.bool (iQ A k)] → h1 (n + 1 + 1 + 1) = some (.loop (L67 TM)) → (∀ j, j < n + 1 + 1 + 1 + 1 → j ≠ n + 1 → j ≠ n + 1 + 1 + 1 → h1 j = H4 j) → n + 1 + 1 + 1 + 1 ≤ n1 → bB h1 n1 → w = .bool (xR A k) →
      Wp (jH env (aE env) (.fn (.yield (n + 1 + 1 + 1)) [] []) [pv, w]) h1 n1 fun v' h' n' => ((yes true v' ∧ Row h' (n + 1) [.bool (iQ A (k + 1))] ∧ h' (n + 1 + 1 + 1) = some (.loop (L67 TM)) ∧ (∀ j, j < n + 1 + 1 + 1 + 1 → j ≠ n + 1 → j ≠ n + 1 + 1 + 1 → h' j = H4 j)) ∨
        (yes false v' ∧ lZ A = false ∧ Row h' (n + 1) [.bool false] ∧ (∃ l, h' (n + 1 + 1 + 1) = some (.loop l) ∧ l.state = .done ∧ l.pending = some (.exit 0)) ∧ (∀ j, j < n + 1 + 1 + 1 + 1 → j ≠ n + 1 → j ≠ n + 1 + 1 + 1 → h' j = H4 j))) ∧ ∀ j, n + 1 + 1 + 1 + 1 ≤ j → j < n1 → h' j = h1 j := by
    intro k w pv h1 n1 hk hr1 hlo hkp hn1 hf1 hw
    refine oO hlo rfl rfl ?_
    simp only [MV, List.getD_cons_zero, mL, List.zip_cons_cons, List.zip_nil_left, L67, TM, cG, Try.f67, Option.getD_some, fgr, gE]
    refine ⟨_, hlo, rfl, ?_⟩
    obtain ⟨h2, hh2⟩ : ∃ h2, h2 = upd h1 (n + 1 + 1 + 1) (some (Blk.loop { L67 TM with state := .busy })) := ⟨_, rfl⟩
    have ho2 : ∀ j, j ≠ n + 1 + 1 + 1 → h2 j = h1 j := fun j hj => by rw [hh2, aK _ _ hj]
    have hlo2 : h2 (n + 1 + 1 + 1) = some (.loop { L67 TM with state := .busy }) := by rw [hh2, aM]
    have hf2 : bB h2 n1 := by rw [hh2]; exact hf1.upd (by omega)
    show Run env 67 _ _ _ _ _ (upd h1 (n + 1 + 1 + 1) (some (Blk.loop { L67 TM with state := .busy }))) n1
    rw [← hh2]
    clear hh2
    obtain ⟨e0, hr2⟩ := hr1.aO (ho2 (n + 1) (by omega))
    simp only [MR, List.getD_cons_zero, cG, Try.f67, Option.getD_some, fgr, gE]
    subst hw
    have rd2 : Rd (load env 4 (.ptr (n + 1) 0)) h2 n1 [n + 1] (.bool (iQ A k)) := Row.one (cs := [.bool (iQ A k)]) (off := 0) ⟨e0, hr2⟩ rfl ti4 rfl
    rw [aH rd2]
    simp only [gE]
    refine j6 (v := .bool (xR A k)) (fun _ => aS.2 ⟨rfl, rfl, rfl⟩) ?_
    simp only [mX, gE]
    rw [← IF]
    rw [dE (Row.write (v := .bool (iQ A (k + 1))) hr2 ti4 rfl (by show 0 + 1 ≤ 1; omega) rfl)]
    obtain ⟨h3', hh3⟩ : ∃ h3', h3' = upd h2 (n + 1) (some (.row (.l [.bool (iQ A (k + 1))]) e0)) := ⟨_, rfl⟩
    show Ops _ _ _ _ _ _ _ _ (upd h2 (n + 1) (some (.row (.l [.bool (iQ A (k + 1))]) e0))) _
    rw [← hh3]
    have r3' : Row h3' (n + 1) [.bool (iQ A (k + 1))] := ⟨e0, by rw [hh3, aM]⟩
    have o3' : ∀ j, j ≠ n + 1 → h3' j = h2 j := fun j hj => by rw [hh3, aK _ _ hj]
    clear hh3
    have hlo3 : h3' (n + 1 + 1 + 1) = some (.loop { L67 TM with state := .busy }) := (o3' _ (by omega)).trans hlo2
    simp only [fgr, gE]
    rw [aH (r3'.one (off := 0) rfl ti4 rfl)]
    cases hfb : iQ A (k + 1) with
    | true =>
      rw [hfb] at r3'
      simp only [fgr, unOp, gE]
      refine ⟨_, hlo3, .inl ⟨.inl rfl, (r3'.upd (by omega)), aM _ _ _, fun j h1 h2 h3 => ?_⟩, fun j h1 h2 => ?_⟩
      · rw [aK _ _ h3, o3' j h2, ho2 j h3, hkp j h1 h2 h3]
      · rw [aK _ _ (by omega), o3' j (by omega), ho2 j (by omega)]
    | false =>
      rw [hfb] at r3'
      simp only [fgr, unOp, gE]
      refine ⟨_, hlo3, .inr ⟨.inl rfl, P5 hfb (by omega), (r3'.upd (by omega)), ⟨_, aM _ _ _, rfl, rfl⟩, fun j h1 h2 h3 => ?_⟩, fun j h1 h2 => ?_⟩
      · rw [aK _ _ h3, o3' j h2, ho2 j h3, hkp j h1 h2 h3]
      · rw [aK _ _ (by omega), o3' j (by omega), ho2 j (by omega)]
  have lo4 : ∀ (h1 h2 : Hp), (∀ j, j < n + 1 + 1 + 1 + 1 → h2 j = h1 j) → (∀ j, j < n + 1 + 1 + 1 + 1 → j ≠ n + 1 → j ≠ n + 1 + 1 + 1 → h1 j = H4 j) → ∀ j, j < n + 1 + 1 + 1 + 1 → j ≠ n + 1 → j ≠ n + 1 + 1 + 1 → h2 j = H4 j := fun h1 h2 q k j q1 q2 q3 => by rw [q j q1, k j q1 q2 q3]
  refine cN (f113 (.fn (.yield (n + 1 + 1 + 1)) [] []) mv sv (n + 1 + 1) a b A H4 (n + 1 + 1 + 1 + 1) (by omega) (by omega) f4
    (fun k h1 => Row h1 (n + 1) [.bool (iQ A k)] ∧ h1 (n + 1 + 1 + 1) = some (.loop (L67 TM)) ∧ ∀ j, j < n + 1 + 1 + 1 + 1 → j ≠ n + 1 → j ≠ n + 1 + 1 + 1 → h1 j = H4 j)
    (fun h1 => lZ A = false ∧ Row h1 (n + 1) [.bool false] ∧ (∃ l, h1 (n + 1 + 1 + 1) = some (.loop l) ∧ l.state = .done ∧ l.pending = some (.exit 0)) ∧ ∀ j, j < n + 1 + 1 + 1 + 1 → j ≠ n + 1 → j ≠ n + 1 + 1 + 1 → h1 j = H4 j)
    ⟨r4, g4, fun j _ _ _ => rfl⟩ ?_ ?_ ?_ ?_ ?_) ?_
  · rintro k h1 ⟨q1, q2, q3⟩
    exact ⟨rc4.aO (q3 _ (by omega) (by omega) (by omega)), a4.aO fun j _ q => q3 j (by omega) (by omega) (by omega)⟩
  · rintro k h1 h2 ⟨q1, q2, q3⟩ q
    exact ⟨q1.aO (q _ (by omega)), (q _ (by omega)).trans q2, lo4 h1 h2 q q3⟩
  · rintro h1 h2 ⟨q0, q1, ⟨l, q2, q4, q5⟩, q3⟩ q
    exact ⟨q0, q1.aO (q _ (by omega)), ⟨l, (q _ (by omega)).trans q2, q4, q5⟩, lo4 h1 h2 q q3⟩
  · rintro k hk w h1 n1 ⟨q1, q2, q3⟩ hn1 hf1 hw
    exact step k w _ h1 n1 (by omega) q1 q2 q3 hn1 hf1 (by rw [hw]; unfold xR; rw [if_pos hk])
  · rintro k hk w h1 n1 ⟨q1, q2, q3⟩ hn1 hf1 hw
    exact step (A.made.length + k) w _ h1 n1 (by omega) q1 q2 q3 hn1 hf1 (by rw [hw]; unfold xR; rw [if_neg (by omega), Nat.add_sub_cancel_left])
  · rintro v5 h5 n5 ⟨e5, hh⟩
    rcases hh with ⟨q1, q2, q3⟩ | ⟨q0, q1, ⟨l, q2, q4, q5⟩, q3⟩
    · refine ⟨_, q2, (fun q => by cases q), .normal, rfl, ?_⟩
      replace q1 : Row h5 (n + 1) [.bool (lZ A)] := q1
      simp only [gE]
      rw [aH ((q1.upd (i := n + 1 + 1 + 1) (by omega)).one (off := 0) rfl ti4 rfl)]
      have old5 : ∀ (b : Option Blk), Old h (upd h5 (n + 1 + 1 + 1) b) n := fun b j hj => by rw [aK _ _ (by omega), q3 j (by omega) (by omega) (by omega), old4 j hj]
      cases hcb : lZ A with
      | true => simp only [fgr, unOp, ↓reduceIte, gE]; exact old5 _
      | false => simp only [fgr, unOp, ↓reduceIte, reduceCtorEq, gE]; exact old5 _
    · refine ⟨_, q2, (fun q => by rw [q4] at q; cases q), .exit 0, by rw [q5], ?_⟩
      simp only [gE]
      rw [aH ((q1.upd (i := n + 1 + 1 + 1) (by omega)).one (off := 0) rfl ti4 rfl)]
      have old5 : ∀ (b : Option Blk), Old h (upd h5 (n + 1 + 1 + 1) b) n := fun b j hj => by rw [aK _ _ (by omega), q3 j (by omega) (by omega) (by omega), old4 j hj]
      rw [q0]
      simp only [fgr, unOp, ↓reduceIte, reduceCtorEq, gE]; exact old5 _
structure Ixw (K T : Nat → Prop) (h : Hp) (n x : Nat) (L : List Ver) : Prop where
  ix : ∃ D M, Ix h n D M x L ∧ (∀ j, K j → j < n ∧ ¬ M j) ∧ ∀ j, T j → j < n ∧ ¬ D j
  g : ∀ v ∈ L, zR v
variable {K T : Nat → Prop} {h h' : Hp} {n n' x : Nat} {L : List Ver}
theorem Ixw.rL (s : Ixw K T h n x L) : cP false L := by
  obtain ⟨⟨D, M, i, _⟩, _⟩ := s
  exact i.r
theorem Ixw.sub {K' : Nat → Prop} (s : Ixw K T h n x L) (hk : ∀ j, K' j → K j) : Ixw K' T h n x L := by
  obtain ⟨⟨D, M, i, q, t⟩, g⟩ := s
  exact ⟨⟨D, M, i, fun j hj => q j (hk j hj), t⟩, g⟩
theorem Ixw.tH (s : Ixw K T h n x L) (hn : n ≤ n') (ho : Old h h' n) : Ixw (fun j => K j ∨ (n ≤ j ∧ j < n')) T h' n' x L := by
  obtain ⟨⟨D, M, i, q, t⟩, g⟩ := s
  refine ⟨⟨D, M, i.old hn ho, fun j hj => ?_, fun j hj => ⟨by have := (t j hj).1; omega, (t j hj).2⟩⟩, g⟩
  rcases hj with hj | hj
  · exact ⟨by have := (q j hj).1; omega, (q j hj).2⟩
  · obtain ⟨⟨S, ⟨vl, vs, xl, xs, iv, mx, ml, ms, mn⟩, _⟩, _⟩ := i
    exact ⟨hj.2, fun w => by have := (mn j w).1; omega⟩
theorem Ixw.old (s : Ixw K T h n x L) (hn : n ≤ n') (ho : Old h h' n) : Ixw K T h' n' x L := (s.tH hn ho).sub fun j q => .inl q
theorem Chg.w {D M D' M' : Nat → Prop} (c : Chg h n D M h' n' D' M') (q : ∀ j, K j → j < n ∧ ¬ M j) (t : ∀ j, T j → j < n ∧ ¬ D j) : (∀ j, K j → h' j = h j) ∧ (∀ j, K j → j < n' ∧ ¬ M' j) ∧ ∀ j, T j → j < n' ∧ ¬ D' j := by
  refine ⟨fun j hj => c.old j (q j hj).1 (q j hj).2, fun j hj => ⟨by have := (q j hj).1; have := c.nx; omega, fun w => ?_⟩, fun j hj => ⟨by have := (t j hj).1; have := c.nx; omega, fun w => ?_⟩⟩
  · have := q j hj
    rcases c.m' j w with w | w
    · exact this.2 w
    · omega
  · have := t j hj
    rcases c.d' j w with w | w
    · exact this.2 w
    · omega
theorem aW5 (v : Ver) (sv : a9) (ov : v.Ok) (hpn : 0 ≤ v.pn) (hsl : v.aI.length ≤ 1000000) (hs : Ixw K T h n x L) (hb : Bytes h sv v.aI) (hsn : ∀ j, aT sv = some j → j < n) (hc : L.length ≤ 900000) (hf : bB h n) :
    Wp (aQ env (aE env) 33 [.ptr x 0, .agg (aN v sv)]) h n fun v' h' n' => (∀ j, K j → h' j = h j) ∧ ((CC v L ∧ v' = .int .i64 210 ∧ Ixw K T h' n' x L) ∨ (¬ CC v L ∧ v' = .int .i64 0 ∧ Ixw K T h' n' x (kW L v))) := by
  obtain ⟨⟨D, M, i, q, t⟩, g⟩ := hs
  refine cN (f33 x v sv ov hsl L D M h n i hb hsn hc hf) fun v' h' n' hh => ?_
  rcases hh with ⟨a, b, i', c⟩ | ⟨a, b, D', M', i', c⟩
  · exact ⟨(c.w q t).1, .inl ⟨a, b, ⟨⟨_, _, i', (c.w q t).2⟩, g⟩⟩⟩
  · refine ⟨(c.w q t).1, .inr ⟨a, b, ⟨⟨_, _, i', (c.w q t).2⟩, fun w hw => ?_⟩⟩⟩
    rcases xF.1 hw with rfl | hw
    · refine ⟨?_, hpn⟩
      cases e : vV w with
      | false => rfl
      | true => exact absurd (.inl e) a
    · exact g w hw
theorem aW4 (aP : List UInt8) (pn made : Int) (hl : aP.length = 32) (hs : Ixw K T h n x L) (hc : L.length ≤ 900000) (hf : bB h n) :
    Wp (aQ env (aE env) 34 [.ptr x 0, .agg (aV aP pn), .int .i64 made]) h n fun v' h' n' => (∀ j, K j → h' j = h j) ∧ (((∀ w ∈ L, eO w (key aP pn made) ≠ 0) ∧ v' = .int .i64 210 ∧ Ixw K T h' n' x L) ∨ ∃ w, w ∈ L ∧ eO w (key aP pn made) = 0 ∧ v' = .int .i64 0 ∧ Ixw K T h' n' x (kV L w)) := by
  obtain ⟨⟨D, M, i, q, t⟩, g⟩ := hs
  refine cN (f34 x aP pn made hl L D M h n i (by omega) hf) fun v' h' n' ⟨hh, c⟩ => ?_
  rcases hh with ⟨a, b, i'⟩ | ⟨w, a, b, e, i'⟩
  · exact ⟨(c.w q t).1, .inl ⟨a, b, ⟨⟨_, _, i', (c.w q t).2⟩, g⟩⟩⟩
  · exact ⟨(c.w q t).1, .inr ⟨w, a, b, e, ⟨⟨_, _, i', (c.w q t).2⟩, fun u hu => g u (KJ hu)⟩⟩⟩
theorem aW3 (aP : List UInt8) (pn made s : Int) (b : List UInt8) (hl : aP.length = 32) (hbl : b.length = 32) (hs : Ixw K T h n x L) (hc : L.length ≤ 900000) (hf : bB h n) :
    Wp (aQ env (aE env) 36 [.ptr x 0, .agg (aV aP pn), .int .i64 made, .int .i64 s, .agg (b.map u8)]) h n fun v' h' n' => (∀ j, K j → h' j = h j) ∧
      (((∀ w ∈ L, eO w (key aP pn made) = 0 → (w.c8 ≠ 0 ∨ s < 1 ∨ s < made)) ∧ v' = .int .i64 210 ∧ Ixw K T h' n' x L) ∨
      (∃ w ∈ L, eO w (key aP pn made) = 0 ∧ w.c8 = 0 ∧ 1 ≤ s ∧ made ≤ s ∧ v' = .int .i64 0 ∧ Ixw K T h' n' x (nL L w (fT w s b)))) := by
  have rL := hs.rL
  obtain ⟨⟨D, M, i, q, t⟩, g⟩ := hs
  refine cN (f36 x aP pn made s b hl hbl L D M h n i hc hf) fun v' h' n' hh => ?_
  rcases hh with ⟨a, e, i', c⟩ | ⟨w, hw, a1, a2, a3, a4, e, D', M', i', c⟩
  · exact ⟨(c.w q t).1, .inl ⟨a, e, ⟨⟨_, _, i', (c.w q t).2⟩, g⟩⟩⟩
  · rw [IH rL hw] at i'
    refine ⟨(c.w q t).1, .inr ⟨w, hw, a1, a2, a3, a4, e, ⟨⟨_, _, i', (c.w q t).2⟩, fun u hu => ?_⟩⟩⟩
    rcases sP hu with rfl | hu
    · exact AR (g w hw) (.inr ⟨a3, by rw [(AS a1).2.2]; exact a4⟩)
    · exact g u hu
theorem aW2 (aP : List UInt8) (pn made : Int) (hl : aP.length = 32) (hs : Ixw K T h n x L) (hc : L.length ≤ 900000) (hf : bB h n) :
    Wp (aQ env (aE env) 38 [.ptr x 0, .agg (aV aP pn), .int .i64 made]) h n fun v' h' n' => (∀ j, K j → h' j = h j) ∧
      (((∀ w ∈ L, eO w (key aP pn made) = 0 → w.c8 = 0) ∧ v' = .int .i64 210 ∧ Ixw K T h' n' x L) ∨
      (∃ w ∈ L, eO w (key aP pn made) = 0 ∧ w.c8 ≠ 0 ∧ v' = .int .i64 0 ∧ Ixw K T h' n' x (nL L w (fT w 0 z32)))) := by
  have rL := hs.rL
  obtain ⟨⟨D, M, i, q, t⟩, g⟩ := hs
  refine cN (f38 x aP pn made hl L D M h n i hc hf) fun v' h' n' hh => ?_
  rcases hh with ⟨a, e, i', c⟩ | ⟨w, hw, a1, a2, e, D', M', i', c⟩
  · exact ⟨(c.w q t).1, .inl ⟨a, e, ⟨⟨_, _, i', (c.w q t).2⟩, g⟩⟩⟩
  · rw [IH rL hw] at i'
    refine ⟨(c.w q t).1, .inr ⟨w, hw, a1, a2, e, ⟨⟨_, _, i', (c.w q t).2⟩, fun u hu => ?_⟩⟩⟩
    rcases sP hu with rfl | hu
    · exact AR (g w hw) (.inl rfl)
    · exact g u hu
theorem Ixw.k (s : Ixw K T h n x L) : Ixk (fun _ => False) h n x L := by
  obtain ⟨⟨D, M, i, q, t⟩, g⟩ := s
  exact ⟨⟨D, M, i, fun j q => q.elim⟩, g⟩
theorem z4 {E : Env} {h : Hp} {n : Nat} {t t2 e : TypeId} {i : TI} {s x : a9} {cnt k : Nat} {xs ys : List a9} (hs : Lst h e i.size s cnt xs) (hx : Rds h i.size x k ys)
    (ht : und E t = M.pure (.slice e)) (ht2 : und E t2 = M.pure (.slice e)) (hi : ti E e = M.pure i) (hk : 0 < k)
    (hroom : 2 * (cnt + k) * i.bytes ≤ 281474976710656) (hroom2 : cnt + k ≤ 281474976710656) :
    Wp (eY E [t, t2] (yI cnt s) x) h n fun v' h' n' => v' = .sl n 0 (cnt + k) none i.size ∧ h' = upd h n (some (.row (.l (xs ++ ys)) e)) ∧ n' = n + 1 := by
  simp only [eY, ht2, aD, rW, append, ht, hi, hx.len, fX]
  have hk0 : k.beq 0 = false := jW (by omega)
  simp only [hk0]
  refine eK hx.cells ?_
  have r1 : ((2 * (cnt + k) * i.bytes).ble room && (cnt + k).ble room) = true := by
    unfold room
    rw [cQ hroom, cQ hroom2]; rfl
  have hc := hs.cut (Nat.le_refl cnt)
  rw [List.take_of_length_le (by rw [hs.rds.length]; exact Nat.le_refl _)] at hc
  have hrd := hc.rds.cells (n := n)
  cases hs with
  | nil =>
    rw [Nat.zero_add] at r1
    simp only [yI, hO, eP, fW, aS, r1, List.nil_append, Nat.zero_add, and_self]
  | sl id cnt cap cells xs hh hl hcc hxs =>
    have hf2 : (cnt + k).ble cnt = false := gO (by omega)
    simp only [yI, cB, Nat.beq_refl, eU, hh, Option.some.injEq, exists_eq_left', eG, fX, hf2]
    refine eK hrd ?_
    simp only [hO, eP, fW, aS, r1, and_self]
structure Inf where
  bJ : Int
  block : List UInt8
  jA : Int
  eZ : Int
  dX : Int
  left : Int
def bL (i : Inf) : List a9 := .int .i64 i.bJ :: (i.block.map u8 ++ [.int .i64 i.jA, .int .i64 i.eZ, .int .i64 i.dX, .int .i64 i.left])
def gH : Inf := ⟨0, z32, 0, 0, 0, 0⟩
theorem bX {i : Inf} (hb : i.block.length = 32) : (bL i).length = 37 := by simp [bL, hb]
theorem eN (i : Inf) : (bL i).all bC = true := by
  unfold bL
  rw [List.all_cons, List.all_append, List.all_map]
  simp [u8, bC]
theorem jE {i : Inf} (hb : i.block.length = 32) (k : Nat) : (bL i)[33 + k]? = [a9.int .i64 i.jA, .int .i64 i.eZ, .int .i64 i.dX, .int .i64 i.left][k]? := by
  unfold bL
  rw [show 33 + k = 32 + k + 1 by omega, List.getElem?_cons_succ, List.getElem?_append_right (by simp [hb]), List.length_map, hb]
  congr 1; omega
structure IL (h : Hp) (v : a9) (I : List Inf) : Prop where
  ex : ∃ cells, Lst h 61 37 v I.length cells ∧ ∀ (j : Nat) (hj : j < I.length), (cells.drop (j * 37)).take 37 = bL I[j] ∧ I[j].block.length = 32
theorem IL.aO {h h' : Hp} {v : a9} {I : List Inf} (l : IL h v I) (hk : ∀ j, aT v = some j → h' j = h j) : IL h' v I := by
  obtain ⟨cells, c1, c2⟩ := l
  exact ⟨cells, c1.aO hk, c2⟩
theorem u57 : und env 57 = M.pure (.slice 61) := rfl
theorem V7 : sizeOf env 61 = M.pure 37 := rfl
theorem IL.len {h : Hp} {v : a9} {I : List Inf} (l : IL h v I) {ts : List TypeId} : cA env (57 :: ts) v = M.pure (.int .i64 (I.length : Nat)) := by
  obtain ⟨cells, c1, c2⟩ := l
  exact c1.rds.cA u57
theorem IL.kind {h : Hp} {v : a9} {I : List Inf} (l : IL h v I) : v.cells = [v] ∧ bC v = true ∧ dA v = false := by
  obtain ⟨cells, c1, c2⟩ := l
  exact c1.rds.kind
theorem IL.idx {h : Hp} {v : a9} {I : List Inf} (l : IL h v I) {i : Nat} (hi : i < I.length) {h' : Hp} {n' : Nat} : Rd (indexAddr env 57 v (.int .i64 ((i : Nat) : Int))) h' n' [] (dM (i * 37) v) := by
  obtain ⟨cells, c1, c2⟩ := l
  exact c1.rds.idx u57 V7 rfl hi
theorem IL.all {h : Hp} {n : Nat} {v : a9} {I : List Inf} (l : IL h v I) {i : Nat} (hi : i < I.length) : I[i].block.length = 32 ∧ Rd (load env 61 (dM (i * 37) v)) h n (rid v) (.agg (bL I[i])) := by
  obtain ⟨cells, c1, c2⟩ := l
  obtain ⟨e, o⟩ := c2 i hi
  refine ⟨o, ?_⟩
  have hl : cells.length = I.length * 37 := c1.rds.length
  have := c1.rds.agg (E := env) (n := n) (k := i * 37) gV rfl (by decide) (by show i * 37 + 37 ≤ _; omega)
  have e' : (cells.drop (i * 37)).take 37 = bL I[i] := e
  exact e' ▸ this
theorem IL.nil {h : Hp} : IL h .aL [] := ⟨[], .nil, fun j hj => by simp at hj⟩
structure St (W : Nat → Prop) (h : Hp) (n s : Nat) (L : List Ver) (I : List Inf) : Prop where
  ex : ∃ x lv, Row h s [.ptr x 0, lv] ∧ Ixw W W h n x L ∧ IL h lv I ∧ (∀ j, aT lv = some j → j < n ∧ ¬ W j) ∧ W s ∧ ∀ j, W j → j < n
theorem St.sn {W : Nat → Prop} {h : Hp} {n s : Nat} {L : List Ver} {I : List Inf} (q : St W h n s L I) : s < n := by
  obtain ⟨x, lv, r, i, l, a, b, c⟩ := q
  exact c s b
theorem St.next {W : Nat → Prop} {h h' : Hp} {n n' s : Nat} {L : List Ver} {I : List Inf} (q : St W h n s L I) (hn : n ≤ n') (hk : ∀ j, j < n → (j = s ∨ ¬ W j) → h' j = h j) : St W h' n' s L I := by
  obtain ⟨x, lv, r, ⟨⟨D, M, i, k, t⟩, g⟩, l, a, b, c⟩ := q
  have in_ : ∀ j, j < n → (D j ∨ M j) → h' j = h j := fun j hj w => hk j hj (.inr fun y => by
    rcases w with w | w
    · exact (t j y).2 w
    · exact (k j y).2 w)
  exact ⟨x, lv, r.aO (hk s (c s b) (.inl rfl)), ⟨⟨D, M, i.sF hn in_, fun j y => ⟨by have := c j y; omega, (k j y).2⟩, fun j y => ⟨by have := c j y; omega, (t j y).2⟩⟩, g⟩, l.aO fun j y => hk j (a j y).1 (.inr (a j y).2), fun j y => ⟨by have := (a j y).1; omega, (a j y).2⟩, b, fun j y => by have := c j y; omega⟩
theorem St.old {W : Nat → Prop} {h h' : Hp} {n n' s : Nat} {L : List Ver} {I : List Inf} (q : St W h n s L I) (hn : n ≤ n') (ho : Old h h' n) : St W h' n' s L I := q.next hn fun j hj _ => ho j hj
theorem f66 (s x : Nat) (lv : a9) (h : Hp) (n : Nat) (hr : Row h s [.ptr x 0, lv]) : Wp (aQ env (aE env) 66 [.ptr s 0]) h n fun v' h' n' => v' = .bool false ∧ h' = h ∧ n' = n := by
  refine aW ad8 ad0 ?_
  simp only [GB, Try.f66, Option.getD_some, List.replicate, tyr, fgr, bor, bP, gR, aR, bU, equal, iF, fH, fI, Nat.reduceSub, gE]
  rw [aH (hr.one (off := 0) rfl sL rfl)]
  simp only [tyr, fgr, bor, bP, gR, bH, bU, equal, iF, fH, fI, gE]
theorem S6 (s x : Nat) (lv : a9) (I : List Inf) (h : Hp) (n : Nat) (hr : Row h s [.ptr x 0, lv]) (hi : IL h lv I) (hc : I.length ≤ 1000000) : Rd (Ins.B3 [.ptr s 0]) h n [s] (.int .i64 ((I.length : Nat) - 1)) := by
  obtain ⟨t, hr⟩ := hr
  obtain ⟨cells, c1, c2⟩ := hi
  have key : Rd ((eI s).bind (eG fun c _ => match c with
          | .l cs => match cs with
            | [x, lv] => match x with
              | .ptr _ _ => match lv with
                | .aL => M.pure (a9.int .i64 (-1))
                | .sl _ _ len _ _ => match len.ble 1000000 with
                  | true => M.pure (.int .i64 ((len : Nat) - 1))
                  | false => aY "Tip"
                | _ => aY "Tip"
              | _ => aY "Tip"
            | _ => aY "Tip"
          | _ => aY "Tip")) h n ([] ++ [s]) (.int .i64 ((I.length : Nat) - 1)) := by
    refine Rd.bind (Rd.get hr) ?_
    clear c2; generalize hI : I.length = len at *
    cases c1 with
    | nil => exact Rd.pure _
    | sl id cnt cap cells xs hh hl hcc hx =>
      simp only [eG, cQ hc]
      exact Rd.pure _
  exact key
theorem WM {W : Nat → Prop} {h : Hp} {n s : Nat} {L : List Ver} {I : List Inf} (q : St W h n s L I) (hc : I.length ≤ 1000000) : Rd (Ins.B3 [.ptr s 0]) h n [s] (.int .i64 ((I.length : Nat) - 1)) := by
  obtain ⟨x, lv, r, i, l, a, b, c⟩ := q
  exact S6 s x lv I h n r l hc
theorem f70 (v : a9) (I : List Inf) (h0 h : Hp) (n : Nat) (hv : IL h0 v I) : Wp (aQ env (aE env) 70 [v]) h n fun v' h' n' => v' = yI I.length v ∧ h' = h ∧ n' = n := by
  refine aW aS9 aJ1 ?_
  simp only [aa2, Try.f70, Option.getD_some, List.replicate, fgr, opt, builtin, Nat.reduceSub, hv.len, gE]
  obtain ⟨cells, c1, c2⟩ := hv
  rw [aH (c1.ae9 u57 V7 rfl (Nat.le_refl _))]
  simp only [fgr, gE]
theorem Z5 {h : Hp} {v : a9} {I : List Inf} {cells : List a9} (c1 : Lst h 61 37 v I.length cells) (c2 : ∀ (j : Nat) (hj : j < I.length), (cells.drop (j * 37)).take 37 = bL I[j] ∧ I[j].block.length = 32) : cells.all bC = true := by
  rw [List.all_eq_true]
  intro c hc
  obtain ⟨k, hk, rfl⟩ := List.mem_iff_getElem.1 hc
  have hl : cells.length = I.length * 37 := c1.rds.length
  have hj : k / 37 < I.length := by omega
  have e := (c2 (k / 37) hj).1
  have hp := vF e (i := k % 37) (by omega)
  rw [show k / 37 * 37 + k % 37 = k by omega, List.getElem?_eq_getElem hk] at hp
  exact List.all_eq_true.1 (eN I[k / 37]) _ (List.mem_of_getElem? hp.symm)
theorem f71 (v : a9) (I : List Inf) (h : Hp) (n : Nat) (hv : IL h v I) (hc : I.length ≤ 1000000) (hf : bB h n) :
    Wp (aQ env (aE env) 71 [v]) h n fun v' h' n' => IL h' v' I ∧ (∀ j, aT v' = some j → n ≤ j ∧ j < n') ∧ Old h h' n := by
  obtain ⟨cells, c1, c2⟩ := hv
  have h1 := Z5 c1 c2
  refine aW aS8 aJ0 ?_
  obtain ⟨en, en2⟩ := c1.ED u57
  simp only [aa1, Try.f71, Option.getD_some, List.replicate, fgr, Nat.reduceSub, en, gE]
  cases hnil : lT v with
  | true =>
    obtain ⟨e1, e2, e3⟩ := en2 hnil
    have : I = [] := List.eq_nil_of_length_eq_zero e2
    subst this
    simp only [fgr, gE]
    exact ⟨.nil, (fun j q => by cases q), Old.refl _ _⟩
  | false =>
    simp only [tyr, buildSlice, eS, fill, Nat.ble, gE]
    refine hG gV hf (f := fun id => a9.sl id 0 0 (some 0) 37) fun H r o f => ?_
    simp only [builtin, gE]
    have c1' := c1.aO (h' := H) fun j q => o j (by have := c1.dL hf q; omega)
    refine fE (i := uC.i) (e := 61) (cnt := 0) (xs := []) (.sl n 0 (some 0) [] [] r (by simp) (fun k hk => by injection hk with hk; subst hk; simp) (by simp)) c1'.rds u57 u57 gV h1 (by decide) (by show 2 * (0 + I.length) * 72 ≤ _; omega) (by omega) f ?_
    intro v' h' n' hn' f' l' hid hk
    simp only [fgr, gE]
    rw [Nat.zero_add, List.nil_append] at l'
    refine ⟨⟨cells, l', c2⟩, fun j q => ?_, fun j hj => ?_⟩
    · rcases hid with w | ⟨w, w2⟩
      · rw [w] at q; injection q with q; subst q; exact ⟨Nat.le_refl _, by omega⟩
      · rw [w] at q; injection q with q; subst q; exact ⟨by omega, w2⟩
    · rw [hk j (by omega) (fun e => by injection e with e; omega), o j (by omega)]
theorem f26 (W : Nat → Prop) (h : Hp) (n : Nat) (hf : bB h n) (hw : ∀ j, W j → j < n) : Wp (aQ env (aE env) 26 []) h n fun v' h' n' => ∃ s, v' = .ptr s 0 ∧ n ≤ s ∧ St (fun j => W j ∨ j = s) h' n' s [] [] ∧ Old h h' n := by
  refine aW aU8 aL0 ?_
  simp only [ac1, Try.f26, Option.getD_some, List.replicate, fgr, hkr, Nat.reduceSub, gE]
  refine aU hf (f40 h n hf) fun v1 h1 n1 hn1 f1 ⟨x, e1, hx, i1, o1⟩ => ?_
  subst e1
  have b59 : build env 59 [(0, .ptr x 0)] = M.pure (.agg [.ptr x 0, .aL]) := rfl
  simp only [b59, gE]
  refine cX (v := .agg [.ptr x 0, .aL]) RS rfl f1 fun H2 r2 o2 f2 => ?_
  simp only [fgr, gE]
  replace r2 : Row H2 n1 [.ptr x 0, .aL] := r2
  have xlt := i1.xlt
  refine ⟨n1, rfl, by omega, ⟨x, .aL, r2, ⟨⟨_, _, i1.old (by omega) (fun j hj => o2 j (by omega)), fun j y => ⟨?_, fun w => ?_⟩, fun j y => ⟨?_, fun w => w⟩⟩, fun v hv => by cases hv⟩, .nil, (fun j y => by cases y), .inr rfl, fun j y => ?_⟩, fun j hj => by rw [o2 j (by omega), o1 j hj]⟩
  · rcases y with y | y
    · have := hw j y; omega
    · omega
  · rcases y with y | y
    · have := hw j y; omega
    · omega
  · rcases y with y | y
    · have := hw j y; omega
    · omega
  · rcases y with y | y
    · have := hw j y; omega
    · omega
end Go.Am.Ytlgebaofkolkoaa
set_option linter.unusedSimpArgs false
set_option linter.unusedVariables false
set_option linter.defProp false
set_option maxRecDepth 10000
namespace Go.Am.Ytlgebaofkolkoaa
open Go Go.Am Go.Proofs
theorem T4 (Q : dG) (ks : List Kf) (Y lv : a9) (c s x : Nat) (I : List Inf) (hc : I.length ≤ 1000000) (P : Nat → Hp → Nat → Prop) (R : Hp → Nat → Prop)
    (hP : ∀ k h n, P k h n → Row h c [.ptr s 0] ∧ Row h s [.ptr x 0, lv] ∧ IL h lv I ∧ bB h n)
    (hY : ∀ (k : Nat) (hk : k < I.length) (h : Hp) (n : Nat), P k h n → Wp (jH env (aE env) Y [.agg (bL I[k])]) h n fun v' h' n' => (yes true v' ∧ P (k + 1) h' n') ∨ (yes false v' ∧ R h' n'))
    (hT : ∀ (h : Hp) (n : Nat) (tm : List a9), P I.length h n → cT env 102 none Q ks (.exit 0) tm h n)
    (hR : ∀ (h : Hp) (n : Nat) (tm : List a9), R h n → cT env 102 none Q ks .ret tm h n) :
    ∀ (m i : Nat) (h : Hp) (n : Nat) (x3 x10 x21 : a9), i + m = I.length → P i h n →
      Run env 102 none Q (.loop C1) ks (Y :: .ptr c 0 :: a9.aA :: x3 :: a9.aA :: a9.aA :: a9.aA :: a9.aA :: .int .i64 (I.length : Nat) :: .int .i64 (i : Nat) :: x10 :: a9.aA :: a9.aA :: a9.aA :: a9.aA :: a9.aA :: a9.aA :: a9.aA :: a9.aA :: a9.aA :: a9.aA :: x21 :: a9.aA :: []) h n := by
  intro m
  induction m with
  | zero =>
    intro i h n x3 x10 x21 hm hp
    have : i = I.length := by omega
    subst this
    rw [bT]
    have hcc : ¬ (((I.length : Nat) : Int) < ((I.length : Nat) : Int)) := by omega
    simp only [C1, bD, Try.f102, Option.getD_some, fgr, bor, List.getD_cons_zero, hcc, gE]
    exact hT h n _ hp
  | succ m ih =>
    intro i h n x3 x10 x21 hm hp
    obtain ⟨rc, rs, il, hf⟩ := hP i h n hp
    have hil : i < I.length := by omega
    have hcc : (((i : Nat) : Int) < ((I.length : Nat) : Int)) := by omega
    have w1 : IntKind.i64.wrap (((i : Nat) : Int) + 1) = ((i + 1 : Nat) : Int) := by rw [w64 (by omega) (by omega)]; omega
    have hYi := hY i hil
    obtain ⟨ok, hld⟩ := il.all (n := n) hil
    rw [bT]
    simp only [C1, bD, Try.f102, Option.getD_some, fgr, bor, List.getD_cons_zero, hcc, gE]
    rw [aH (rc.one (off := 0) rfl J2 rfl)]
    simp only [tyr, aR, gE]
    rw [aH (rs.one (off := 1) rfl uE rfl)]
    simp only [gE]
    rw [aH (il.idx hil)]
    simp only [gE]
    rw [aH hld]
    simp only [gE]
    refine aU hf (hYi h n hp) fun v4 h4 n4 hn4 f4 hh => ?_
    rcases hh with ⟨e4 | e4, hp4⟩ | ⟨e4 | e4, hr4⟩
    · subst e4
      simp only [fgr, bor, bZ, unOp, w1, gE]
      exact ih (i + 1) h4 n4 _ _ _ (by omega) hp4
    · subst e4
      simp only [fgr, bor, bZ, unOp, w1, gE]
      exact ih (i + 1) h4 n4 _ _ _ (by omega) hp4
    · subst e4
      simp only [fgr, unOp, gE]
      exact hR h4 n4 _ hr4
    · subst e4
      simp only [fgr, unOp, gE]
      exact hR h4 n4 _ hr4
theorem f102 (Y lv : a9) (c s x : Nat) (I : List Inf) (h : Hp) (n : Nat) (hc : I.length ≤ 1000000) (P : Nat → Hp → Nat → Prop) (R : Hp → Nat → Prop) (h0 : P 0 h n)
    (hP : ∀ k h n, P k h n → Row h c [.ptr s 0] ∧ Row h s [.ptr x 0, lv] ∧ IL h lv I ∧ bB h n)
    (hY : ∀ (k : Nat) (hk : k < I.length) (h : Hp) (n : Nat), P k h n → Wp (jH env (aE env) Y [.agg (bL I[k])]) h n fun v' h' n' => (yes true v' ∧ P (k + 1) h' n') ∨ (yes false v' ∧ R h' n')) :
    Wp (aQ env (aE env) 102 [Y, .ptr c 0]) h n fun v' h' n' => v' = .tup [] ∧ (P I.length h' n' ∨ R h' n') := by
  obtain ⟨rc, rs, il, hf⟩ := hP 0 h n h0
  refine aW aw3 ar4 ?_
  simp only [P3, Try.f102, Option.getD_some, List.replicate, Nat.reduceAdd, Nat.reduceSub, gE]
  rw [aH (rc.one (off := 0) rfl J2 rfl)]
  simp only [tyr, aR, gE]
  rw [aH (rs.one (off := 1) rfl uE rfl)]
  simp only [fgr, builtin, il.len, gE]
  refine T4 _ _ Y lv c s x I hc P R hP hY ?_ ?_ I.length 0 h n _ _ _ (by omega) h0
  · intro h4 n4 tm p4
    simp only [bK, true_and]
    exact .inl p4
  · intro h4 n4 tm r4
    simp only [bK, true_and]
    exact .inr r4
theorem f72 (s : Nat) (h : Hp) (n : Nat) (hf : bB h n) : Wp (aQ env (aE env) 72 [.ptr s 0]) h n fun v' h' n' => v' = .fn (.func 102) [] [.ptr n 0] ∧ Row h' n [.ptr s 0] ∧ (∀ j, j ≠ n → h' j = h j) ∧ n' = n + 1 := by
  refine aW aS7 aI9 ?_
  simp only [aa0, Try.f72, Option.getD_some, List.replicate, Nat.reduceSub, gE]
  refine cX (v := .ptr s 0) J2 rfl hf fun H1 r1 o1 f1 => ?_
  simp only [fgr, gE]
  exact ⟨r1, o1⟩
def kK (I : List Inf) (z : Int) : Option Inf := I.find? fun i => decide (i.bJ = z)
theorem JZ {I : List Inf} {z : Int} (h : ∀ i (hi : i < I.length), I[i].bJ ≠ z) : kK I z = none := by
  unfold kK
  rw [List.find?_eq_none]
  intro i hi
  obtain ⟨k, hk, rfl⟩ := List.mem_iff_getElem.1 hi
  simpa using h k hk
theorem JY {I : List Inf} {z : Int} {k : Nat} (hk : k < I.length) (h : ∀ i (hi : i < I.length), i < k → I[i].bJ ≠ z) (hz : I[k].bJ = z) : kK I z = some I[k] := by
  unfold kK
  rw [List.find?_eq_some_iff_getElem]
  exact ⟨by simpa using hz, k, hk, rfl, fun j hj => by simpa using h j (by omega) hj⟩
def vT (o : Option Inf) : Int := match o with
  | some _ => 0
  | none => 221
noncomputable def L25 (tm : List a9) : m9 := { state := .ready, pending := none, fn := 25, tmps := tm, params := [14], assign := MY, body := MU }
theorem fG : gH.block.length = 32 := rfl
theorem f25 {W : Nat → Prop} {h : Hp} {n s : Nat} {L : List Ver} {I : List Inf} (q : St W h n s L I) (z : Int) (hc : I.length ≤ 1000000) (hf : bB h n) :
    Wp (aQ env (aE env) 25 [.ptr s 0, .int .i64 z]) h n fun v' h' n' => v' = .tup [.agg (bL ((kK I z).getD gH)), .int .i64 (vT (kK I z))] ∧ ((kK I z).getD gH).block.length = 32 ∧ Old h h' n := by
  obtain ⟨x, lv, r, i, il, a, b, c⟩ := q
  have sn := c s b
  refine aW aU9 aL1 ?_
  simp only [ac2, Try.f25, Option.getD_some, List.replicate, Nat.reduceAdd, Nat.reduceSub, gE]
  refine cX (v := .int .i64 z) ti3 rfl hf fun H1 r1 o1 f1 => ?_
  replace r1 : Row H1 n [.int .i64 z] := r1
  simp only [gE]
  rw [cC gV rfl]
  obtain ⟨H2, hH2⟩ : ∃ H2, H2 = upd H1 (n + 1) (some (.row (.l (bL gH)) 61)) := ⟨_, rfl⟩
  have g2 : H2 (n + 1) = some (.row (.l (bL gH)) 61) := by rw [hH2, aM]
  have o2 : ∀ j, j ≠ n + 1 → H2 j = H1 j := fun j hj => by rw [hH2, aK _ _ hj]
  have f2 : bB H2 (n + 1 + 1) := by rw [hH2]; exact f1.new
  show Ops _ _ _ _ _ _ _ _ (upd H1 (n + 1) (some (.row (.l (bL gH)) 61))) _
  rw [← hH2]
  clear hH2
  have rs2 : Row H2 s [.ptr x 0, lv] := (r.aO (o1 s (by omega))).aO (o2 s (by omega))
  simp only [fgr, hkr, gE]
  refine dJ (f66 s x lv H2 (n + 1 + 1) rs2) ?_
  simp only [fgr, gE]
  rw [cC gV rfl]
  obtain ⟨H3, hH3⟩ : ∃ H3, H3 = upd H2 (n + 1 + 1) (some (.row (.l (bL gH)) 61)) := ⟨_, rfl⟩
  have g3 : H3 (n + 1 + 1) = some (.row (.l (bL gH)) 61) := by rw [hH3, aM]
  have o3 : ∀ j, j ≠ n + 1 + 1 → H3 j = H2 j := fun j hj => by rw [hH3, aK _ _ hj]
  have f3 : bB H3 (n + 1 + 1 + 1) := by rw [hH3]; exact f2.new
  show Ops _ _ _ _ _ _ _ _ (upd H2 (n + 1 + 1) (some (.row (.l (bL gH)) 61))) _
  rw [← hH3]
  clear hH3
  simp only [fgr, gE]
  rw [cC CY rfl]
  simp only [cel, gE]
  refine dF (v := .int .i64 221) CY rfl rfl rfl f3 fun H4 r4 o4 f4 => ?_
  replace r4 : Row H4 (n + 1 + 1 + 1) [.int .i64 221] := r4
  simp only [fgr, hkr, gE]
  refine aU f4 (f72 s H4 (n + 1 + 1 + 1 + 1) f4) fun v5 h5 n5 hn5 f5 ⟨e5, r5, o5, en5⟩ => ?_
  subst e5; subst en5
  simp only [bK, fgr, bQ, put, aJ]
  refine mT (g := 102) (first := []) (cap := [.ptr (n + 1 + 1 + 1 + 1) 0]) rfl rfl ?_
  let TM : List a9 := (.ptr s 0 :: .int .i64 z :: a9.aA :: .ptr n 0 :: .ptr (n + 1) 0 :: .int .i64 0 :: .ptr (n + 1 + 1) 0 :: .ptr (n + 1 + 1 + 1) 0 :: undef :: a9.aA :: .bool false :: a9.aA :: a9.aA :: .fn (.func 102) [] [.ptr (n + 1 + 1 + 1 + 1) 0] :: undef :: a9.aA :: a9.aA :: a9.aA :: undef :: a9.aA :: a9.aA :: a9.aA :: [])
  obtain ⟨H7, hH7⟩ : ∃ H7, H7 = upd h5 (n + 1 + 1 + 1 + 1 + 1) (some (Blk.loop (L25 TM))) := ⟨_, rfl⟩
  show Wp (bM env (aE env) 102 [a9.fn (Fn.yield (n + 1 + 1 + 1 + 1 + 1)) [] [], a9.ptr (n + 1 + 1 + 1 + 1) 0]) (upd h5 (n + 1 + 1 + 1 + 1 + 1) (some (Blk.loop (L25 TM)))) (n + 1 + 1 + 1 + 1 + 1 + 1) _
  rw [US, ← hH7]
  have f7 : bB H7 (n + 1 + 1 + 1 + 1 + 1 + 1) := by rw [hH7]; exact f5.new
  have o7 : ∀ j, j ≠ n + 1 + 1 + 1 + 1 + 1 → H7 j = h5 j := fun j hj => by rw [hH7, aK _ _ hj]
  have g7 : H7 (n + 1 + 1 + 1 + 1 + 1) = some (.loop (L25 TM)) := by rw [hH7, aM]
  clear hH7
  have old7 : ∀ j, j < n → H7 j = h j := fun j hj => by rw [o7 j (by omega), o5 j (by omega), o4 j (by omega), o3 j (by omega), o2 j (by omega), o1 j (by omega)]
  have z7 : Row H7 n [.int .i64 z] := ((((r1.aO (o2 _ (by omega))).aO (o3 _ (by omega))).aO (o4 _ (by omega))).aO (o5 _ (by omega))).aO (o7 _ (by omega))
  have b7 : H7 (n + 1) = some (.row (.l (bL gH)) 61) := by rw [o7 _ (by omega), o5 _ (by omega), o4 _ (by omega), o3 _ (by omega)]; exact g2
  have c7 : H7 (n + 1 + 1) = some (.row (.l (bL gH)) 61) := by rw [o7 _ (by omega), o5 _ (by omega), o4 _ (by omega)]; exact g3
  have d7 : Row H7 (n + 1 + 1 + 1) [.int .i64 221] := (r4.aO (o5 _ (by omega))).aO (o7 _ (by omega))
  have s7 : Row H7 (n + 1 + 1 + 1 + 1) [.ptr s 0] := r5.aO (o7 _ (by omega))
  have rs7 : Row H7 s [.ptr x 0, lv] := r.aO (old7 s sn)
  have il7 : IL H7 lv I := il.aO fun j y => old7 j (a j y).1
  refine cN (f102 (.fn (.yield (n + 1 + 1 + 1 + 1 + 1)) [] []) lv (n + 1 + 1 + 1 + 1) s x I H7 (n + 1 + 1 + 1 + 1 + 1 + 1) hc
    (fun k h1 n1 => bB h1 n1 ∧ n + 1 + 1 + 1 + 1 + 1 + 1 ≤ n1 ∧ h1 (n + 1 + 1 + 1 + 1 + 1) = some (.loop (L25 TM)) ∧ (∀ j, j < n + 1 + 1 + 1 + 1 + 1 → h1 j = H7 j) ∧ ∀ i (hi : i < I.length), i < k → I[i].bJ ≠ z)
    (fun h1 n1 => ∃ (l : m9) (k : Nat) (hk : k < I.length), h1 (n + 1 + 1 + 1 + 1 + 1) = some (.loop l) ∧ l.state = .done ∧ l.pending = some (.exit 0) ∧ (∀ i (hi : i < I.length), i < k → I[i].bJ ≠ z) ∧ I[k].bJ = z ∧ I[k].block.length = 32 ∧ Row h1 (n + 1 + 1) (bL I[k]) ∧ Row h1 (n + 1 + 1 + 1) [.int .i64 0] ∧ ∀ j, j < n + 1 + 1 → h1 j = H7 j)
    ⟨f7, Nat.le_refl _, g7, fun j _ => rfl, fun i _ q => by omega⟩ ?_ ?_) ?_
  · rintro k h1 n1 ⟨q1, q2, q3, q4, q5⟩
    exact ⟨s7.aO (q4 _ (by omega)), rs7.aO (q4 s (by omega)), il7.aO fun j y => q4 j (by have := (a j y).1; omega), q1⟩
  · rintro k hk h1 n1 ⟨q1, q2, q3, q4, q5⟩
    obtain ⟨bok, _⟩ := il7.all (n := n1) hk
    have hdec : ∀ i (hi : i < I.length), i < k → I[i].bJ ≠ z := q5
    have hnx : ∀ i (hi : i < I.length), I[k].bJ ≠ z → i < k + 1 → I[i].bJ ≠ z := fun i hi hne hlt => by
      by_cases e : i = k
      · subst e; exact hne
      · exact q5 i hi (by omega)
    refine oO q3 rfl rfl ?_
    simp only [MY, List.getD_cons_zero, mL, List.zip_cons_cons, List.zip_nil_left, L25, TM, cG, Try.f25, Option.getD_some, gE]
    rw [cC gV rfl]
    simp only [cel, gE]
    refine dF (v := .agg (bL I[k])) gV rfl (bX bok) (eN _) q1 fun H8 r8 o8 f8 => ?_
    replace r8 : Row H8 n1 (bL I[k]) := r8
    have g8 : H8 (n + 1 + 1 + 1 + 1 + 1) = some (.loop (L25 TM)) := (o8 _ (by omega)).trans q3
    simp only [bK, fgr, bQ, aJ, true_and]
    refine ⟨_, g8, rfl, ?_⟩
    obtain ⟨h9, hh9⟩ : ∃ h9, h9 = upd H8 (n + 1 + 1 + 1 + 1 + 1) (some (Blk.loop { L25 TM with state := .busy })) := ⟨_, rfl⟩
    have o9 : ∀ j, j ≠ n + 1 + 1 + 1 + 1 + 1 → h9 j = H8 j := fun j hj => by rw [hh9, aK _ _ hj]
    have g9 : h9 (n + 1 + 1 + 1 + 1 + 1) = some (.loop { L25 TM with state := .busy }) := by rw [hh9, aM]
    have f9 : bB h9 (n1 + 1) := by rw [hh9]; exact f8.upd (by omega)
    show Run env 25 _ _ _ _ _ (upd H8 (n + 1 + 1 + 1 + 1 + 1) (some (Blk.loop { L25 TM with state := .busy }))) (n1 + 1)
    rw [← hh9]
    clear hh9
    have to7 : ∀ j, j < n + 1 + 1 + 1 + 1 + 1 → h9 j = H7 j := fun j hj => by rw [o9 j (by omega), o8 j (by omega), q4 j hj]
    have r9 : Row h9 n1 (bL I[k]) := r8.aO (o9 _ (by omega))
    simp only [MU, List.getD_cons_zero, cG, Try.f25, Option.getD_some, tyr, fgr, aR, gE]
    rw [aH (Row.one (off := 0) r9 (x := .int .i64 I[k].bJ) rfl ti3 rfl)]
    simp only [gE]
    rw [aH ((z7.aO (to7 n (by omega))).one (off := 0) rfl ti3 rfl)]
    by_cases hz : I[k].bJ = z
    · simp only [fgr, bor, hz, gE]
      rw [aH (Row.gY r9 gV rfl (bX bok))]
      simp only [gE]
      rw [dE (Row.write (v := .agg (bL I[k])) ((to7 (n + 1 + 1) (by omega)).trans c7) gV (bX bok) (by rw [bX fG]; show 0 + 37 ≤ 37; omega) (eN _))]
      rw [eB (by show (bL I[k]).length = _; rw [bX bok, bX fG])]
      obtain ⟨hX, hhX⟩ : ∃ hX, hX = upd h9 (n + 1 + 1) (some (.row (.l (bL I[k])) 61)) := ⟨_, rfl⟩
      show Ops _ _ _ _ _ _ _ _ (upd h9 (n + 1 + 1) (some (.row (.l (bL I[k])) 61))) _
      rw [← hhX]
      have oX : ∀ j, j ≠ n + 1 + 1 → hX j = h9 j := fun j hj => by rw [hhX, aK _ _ hj]
      have rX : Row hX (n + 1 + 1) (bL I[k]) := ⟨61, by rw [hhX, aM]⟩
      clear hhX
      simp only [gE]
      obtain ⟨e0, hr7⟩ := d7
      have hr7' : hX (n + 1 + 1 + 1) = some (.row (.l [.int .i64 221]) e0) := by rw [oX _ (by omega), to7 _ (by omega)]; exact hr7
      rw [dE (Row.write (v := .int .i64 0) hr7' CY rfl (by show 0 + 1 ≤ 1; omega) rfl)]
      obtain ⟨hA, hhA⟩ : ∃ hA, hA = upd hX (n + 1 + 1 + 1) (some (.row (.l [.int .i64 0]) e0)) := ⟨_, rfl⟩
      show Ops _ _ _ _ _ _ _ _ (upd hX (n + 1 + 1 + 1) (some (.row (.l [.int .i64 0]) e0))) _
      rw [← hhA]
      have gA : hA (n + 1 + 1 + 1 + 1 + 1) = some (.loop { L25 TM with state := .busy }) := by rw [hhA, aK _ _ (by omega), oX _ (by omega)]; exact g9
      have iA : Row hA (n + 1 + 1) (bL I[k]) := rX.aO (by rw [hhA, aK _ _ (by omega)])
      have eA : Row hA (n + 1 + 1 + 1) [.int .i64 0] := ⟨e0, by rw [hhA, aM]⟩
      have oA : ∀ j, j < n + 1 + 1 → hA j = H7 j := fun j hj => by rw [hhA, aK _ _ (by omega), oX _ (by omega), to7 j (by omega)]
      clear hhA
      simp only [bK, pP, fgr, bQ, aJ]
      exact ⟨_, gA, .inr ⟨.inl rfl, _, k, hk, aM _ _ _, rfl, rfl, hdec, hz, bok, iA.upd (by omega), eA.upd (by omega), fun j hj => by rw [aK _ _ (by omega), oA j hj]⟩⟩
    · simp only [fgr, bor, hz, gE]
      exact ⟨_, g9, .inl ⟨.inl rfl, f9.upd (by omega), by omega, aM _ _ _, fun j hj => by rw [aK _ _ (by omega), to7 j hj], fun i hi hlt => hnx i hi hz hlt⟩⟩
  · rintro v5 h5' n5' ⟨e5, hh⟩
    rcases hh with ⟨q1, q2, q3, q4, q5⟩ | ⟨l, k, hk, q1, q2, q3, q4, q5, q6, q7, q8, q9⟩
    · refine ⟨_, q3, (fun q => by cases q), .normal, rfl, ?_⟩
      have hI : kK I z = none := JZ fun i hi => q5 i hi hi
      rw [hI]
      obtain ⟨hB, hhB⟩ : ∃ hB, hB = upd h5' (n + 1 + 1 + 1 + 1 + 1) (some (Blk.loop { L25 TM with state := .exhausted })) := ⟨_, rfl⟩
      have oB : ∀ j, j < n + 1 + 1 + 1 + 1 + 1 → hB j = H7 j := fun j hj => by rw [hhB, aK _ _ (by omega), q4 j hj]
      show cT env 25 _ _ _ _ _ (upd h5' (n + 1 + 1 + 1 + 1 + 1) (some (Blk.loop { L25 TM with state := .exhausted }))) _
      rw [← hhB]
      clear hhB
      have rI : Row hB (n + 1 + 1) (bL gH) := ⟨61, (oB _ (by omega)).trans c7⟩
      have rE : Row hB (n + 1 + 1 + 1) [.int .i64 221] := d7.aO (oB _ (by omega))
      have rB : hB (n + 1) = some (.row (.l (bL gH)) 61) := (oB _ (by omega)).trans b7
      simp only [bK]
      refine c9 ⟨rfl, ?_⟩
      simp only [gE]
      rw [aZ (Row.gY rI gV rfl (bX fG))]
      simp only [gE]
      rw [aZ (rE.one (off := 0) rfl CY rfl)]
      simp only [Nat.reduceAdd, gE]
      refine kN (Row.write (v := .agg (bL gH)) rB gV (bX fG) (by rw [bX fG]; show 0 + 37 ≤ 37; omega) (eN _)) ?_
      rw [eB (by rfl)]
      simp only [fgr, cel, Nat.reduceAdd, gE]
      refine ⟨(by (try simp (disch := first | assumption | omega) only [cM, gF]); repeat' (first | rfl | exact (Bool.or_eq_true _ _).mpr (.inr rfl) | refine (Bool.and_eq_true _ _).mpr ⟨?_, ?_⟩)), ?_⟩
      refine eK (Row.gY (cs := bL gH) ⟨61, aM _ _ _⟩ gV rfl (bX fG)) (aS.2 ?_)
      exact ⟨rfl, fG, fun j hj => by rw [aK _ _ (by omega), oB j (by omega), old7 j hj]⟩
    · refine ⟨_, q1, (fun q => by rw [q2] at q; cases q), .exit 0, by rw [q3], ?_⟩
      have hI : kK I z = some I[k] := JY hk q4 q5
      rw [hI]
      obtain ⟨hB, hhB⟩ : ∃ hB, hB = upd h5' (n + 1 + 1 + 1 + 1 + 1) (some (Blk.loop { l with state := .exhausted })) := ⟨_, rfl⟩
      have oB : ∀ j, j ≠ n + 1 + 1 + 1 + 1 + 1 → hB j = h5' j := fun j hj => by rw [hhB, aK _ _ hj]
      show cT env 25 _ _ _ _ _ (upd h5' (n + 1 + 1 + 1 + 1 + 1) (some (Blk.loop { l with state := .exhausted }))) _
      rw [← hhB]
      clear hhB
      have rI : Row hB (n + 1 + 1) (bL I[k]) := q7.aO (oB _ (by omega))
      have rE : Row hB (n + 1 + 1 + 1) [.int .i64 0] := q8.aO (oB _ (by omega))
      have rB : hB (n + 1) = some (.row (.l (bL gH)) 61) := by rw [oB _ (by omega), q9 _ (by omega)]; exact b7
      simp only [bK]
      refine c9 ⟨rfl, ?_⟩
      simp only [gE]
      rw [aZ (Row.gY rI gV rfl (bX q6))]
      simp only [gE]
      rw [aZ (rE.one (off := 0) rfl CY rfl)]
      simp only [Nat.reduceAdd, gE]
      refine kN (Row.write (v := .agg (bL I[k])) rB gV (bX q6) (by rw [bX fG]; show 0 + 37 ≤ 37; omega) (eN _)) ?_
      rw [eB (by show (bL I[k]).length = _; rw [bX q6, bX fG])]
      simp only [fgr, cel, Nat.reduceAdd, gE]
      refine ⟨(by (try simp (disch := first | assumption | omega) only [cM, gF]); repeat' (first | rfl | exact (Bool.or_eq_true _ _).mpr (.inr rfl) | refine (Bool.and_eq_true _ _).mpr ⟨?_, ?_⟩)), ?_⟩
      refine eK (Row.gY (cs := bL I[k]) ⟨61, aM _ _ _⟩ gV rfl (bX q6)) (aS.2 ?_)
      exact ⟨rfl, q6, fun j hj => by rw [aK _ _ (by omega), oB j (by omega), q9 j (by omega), old7 j hj]⟩
section
variable {E : Env} {fn : FuncId} {rnd : Option Nat} {Q : dG} {ks : List Kf} {tm : List a9} {h : Hp} {n : Nat} {ops rest : List Oper} {d : Option Tmp}
theorem KC {j : Nat} {fs : List fK} {t : TypeId} {i : TI} (hi : ti E t = M.pure i) (hj : dA i.zero = false) (hf : bB h n)
    (hq : ∀ H, H n = some (.row (.l i.zero.cells) t) → (∀ k, k ≠ n → H k = h k) → bB H (n + 1) → Fe E fn rnd Q ks ops (j + 1) rest (bQ tm d (.ptr n 0)) (⟨j, [], [], n, n + 1⟩ :: fs) H (n + 1)) : FeV E fn rnd Q ks ops j rest d tm fs (oG E t) h n := by
  simp only [oG, j3, hi, aD, alloc, hj]
  exact kL hi hf hq
theorem NH (hf : bB h n) : only (fun j => decide (j < n)) h = h := funext fun j => by
  by_cases c : j < n
  · exact iK (decide_eq_true c)
  · rw [hf j (by omega)]
    exact mY (decide_eq_false c)
theorem TN {j : Nat} {fs : List fK} {m : M a9} {Q1 : a9 → Hp → Nat → Prop} (hf : bB h n) (hw : Wp m h n Q1)
    (hq : ∀ v h' n' r w, n ≤ n' → bB h' n' → Q1 v h' n' → (∀ id, id ∈ r → id < n) → (∀ id, id ∈ w → id < n) → Fe E fn rnd Q ks ops (j + 1) rest (bQ tm d v) (⟨j, r, w, n, n'⟩ :: fs) h' n') : FeV E fn rnd Q ks ops j rest d tm fs m h n := by
  refine C8 (fun j => decide (j < n)) hf (Q0 := Q1) (by rw [NH hf]; exact hw) fun v h' n' r w hr hn hf' q h1 h2 h3 h4 => ?_
  have e : h' = hr := funext fun k => h1 k (by
    by_cases c : k < n
    · exact .inl (decide_eq_true c)
    · exact .inr (by omega))
  rw [← e] at q
  exact hq v h' n' r w hn hf' q (fun id hi => of_decide_eq_true (h3 id hi)) (fun id hi => of_decide_eq_true (h4 id hi))
end
def mJ (z : Int) : Int := IntKind.u64.wrap z
def rH (v : Ver) (L : List Ver) : Bool := vV v || L.any fun w => decide (eO w v = 0)
def kU (L0 : List Ver) (tip : Int) : List Ver → List Ver → Int → Option (List Ver × Int)
  | [], L, t => some (L, t)
  | v :: vs, L, t => if (atV L0 v.aP v.pn tip).isSome || rH v L then none else kU L0 tip vs (kW L v) (mJ (t + mJ v.value))
def jM (z : Int) : List Spd → List Ver → Int → Option (List Ver × Int)
  | [], L, t => some (L, t)
  | p :: ps, L, t => match atV L p.aP p.pn z with
    | none => none
    | some w => if decide (w.c8 = 0) && decide (1 ≤ z) && decide (w.made ≤ z) then jM z ps (nL L w (fT w z p.by_)) (mJ (t - mJ w.value)) else none
theorem AQ {v : Ver} {L : List Ver} : rH v L = true ↔ CC v L := by
  unfold rH CC
  rw [Bool.or_eq_true, List.any_eq_true]
  constructor
  · rintro (h | ⟨a, h1, h2⟩)
    · exact .inl h
    · exact .inr ⟨a, h1, of_decide_eq_true h2⟩
  · rintro (h | ⟨a, h1, h2⟩)
    · exact .inl h
    · exact .inr ⟨a, h1, decide_eq_true h2⟩
theorem NX (Q : dG) (ks : List Kf) (W K T : Nat → Prop) (s y c a b : Nat) (A : App) (mv sv : a9) (L0 : List Ver) (I : List Inf) (RES : Option (List Ver × Int)) (h0 : Hp) (n0 : Nat) (hKn : ∀ j, K j → j < n0) (hcK : K c)
    (hSt : ∀ h n, n0 ≤ n → (∀ j, K j → h j = h0 j) → St W h n s L0 I) (hAp : ∀ h, (∀ j, K j → h j = h0 j) → jN h a b A mv sv) (hb : b ≤ n0) (hrc : Row h0 c (aX A mv sv))
    (hpn : ∀ v ∈ A.made, 0 ≤ v.pn) (hsl : ∀ v ∈ A.made, v.aI.length ≤ 1000000) (hI : I.length ≤ 1000000) (hL0 : L0.length ≤ 900000)
    (hT : ∀ (h : Hp) (n : Nat) (L : List Ver) (t : Int) (x2 x11 x13 x15 x16 x17 x22 x43 x51 x52 x53 x54 x80 : a9), RES = some (L, t) → (∀ j, K j → h j = h0 j) → Ixw K T h n y L → L.length ≤ 900000 → n0 ≤ n → bB h n →
      cT env 69 none Q ks (.exit 0) (.ptr s 0 :: .ptr y 0 :: x2 :: .int .u64 t :: a9.aA :: a9.aA :: .ptr c 0 :: a9.aA :: .int .u64 0 :: .bool false :: a9.aA :: x11 :: a9.aA :: x13 :: a9.aA :: x15 :: x16 :: x17 :: a9.aA :: mv :: .int .i64 (A.made.length : Nat) :: .int .i64 (A.made.length : Nat) :: x22 :: a9.aA :: a9.aA :: a9.aA :: a9.aA :: a9.aA :: a9.aA :: a9.aA :: a9.aA :: a9.aA :: a9.aA :: a9.aA :: a9.aA :: a9.aA :: a9.aA :: a9.aA :: a9.aA :: a9.aA :: a9.aA :: a9.aA :: a9.aA :: x43 :: a9.aA :: a9.aA :: a9.aA :: a9.aA :: a9.aA :: a9.aA :: a9.aA :: x51 :: x52 :: x53 :: x54 :: a9.aA :: a9.aA :: a9.aA :: a9.aA :: a9.aA :: a9.aA :: a9.aA :: a9.aA :: a9.aA :: a9.aA :: a9.aA :: a9.aA :: a9.aA :: a9.aA :: a9.aA :: a9.aA :: a9.aA :: a9.aA :: a9.aA :: a9.aA :: a9.aA :: a9.aA :: a9.aA :: a9.aA :: a9.aA :: x80 :: a9.aA :: a9.aA :: a9.aA :: a9.aA :: a9.aA :: a9.aA :: a9.aA :: []) h n)
    (hR : ∀ (h : Hp) (n : Nat) (x0 x1 x2 x3 x6 x11 x13 x15 x16 x17 x19 x20 x21 x22 x43 x51 x52 x53 x54 x80 : a9), RES = none → (∀ j, K j → h j = h0 j) → cT env 69 none Q ks .ret (x0 :: x1 :: x2 :: x3 :: a9.aA :: a9.aA :: x6 :: a9.aA :: .int .u64 0 :: .bool false :: a9.aA :: x11 :: a9.aA :: x13 :: a9.aA :: x15 :: x16 :: x17 :: a9.aA :: x19 :: x20 :: x21 :: x22 :: a9.aA :: a9.aA :: a9.aA :: a9.aA :: a9.aA :: a9.aA :: a9.aA :: a9.aA :: a9.aA :: a9.aA :: a9.aA :: a9.aA :: a9.aA :: a9.aA :: a9.aA :: a9.aA :: a9.aA :: a9.aA :: a9.aA :: a9.aA :: x43 :: a9.aA :: a9.aA :: a9.aA :: a9.aA :: a9.aA :: a9.aA :: a9.aA :: x51 :: x52 :: x53 :: x54 :: a9.aA :: a9.aA :: a9.aA :: a9.aA :: a9.aA :: a9.aA :: a9.aA :: a9.aA :: a9.aA :: a9.aA :: a9.aA :: a9.aA :: a9.aA :: a9.aA :: a9.aA :: a9.aA :: a9.aA :: a9.aA :: a9.aA :: a9.aA :: a9.aA :: a9.aA :: a9.aA :: a9.aA :: a9.aA :: x80 :: a9.aA :: a9.aA :: a9.aA :: a9.aA :: a9.aA :: a9.aA :: a9.aA :: []) h n) :
    ∀ (m i : Nat) (h : Hp) (n : Nat) (L : List Ver) (t : Int) (x2 x11 x13 x15 x16 x17 x22 x43 x51 x52 x53 x54 x80 : a9), i + m = A.made.length → kU L0 (((I.length : Nat) : Int) - 1) (A.made.drop i) L t = RES → (∀ j, K j → h j = h0 j) → Ixw K T h n y L → L.length + m ≤ 900000 → n0 ≤ n → bB h n →
      Run env 69 none Q (.loop FZ) ks (.ptr s 0 :: .ptr y 0 :: x2 :: .int .u64 t :: a9.aA :: a9.aA :: .ptr c 0 :: a9.aA :: .int .u64 0 :: .bool false :: a9.aA :: x11 :: a9.aA :: x13 :: a9.aA :: x15 :: x16 :: x17 :: a9.aA :: mv :: .int .i64 (A.made.length : Nat) :: .int .i64 (i : Nat) :: x22 :: a9.aA :: a9.aA :: a9.aA :: a9.aA :: a9.aA :: a9.aA :: a9.aA :: a9.aA :: a9.aA :: a9.aA :: a9.aA :: a9.aA :: a9.aA :: a9.aA :: a9.aA :: a9.aA :: a9.aA :: a9.aA :: a9.aA :: a9.aA :: x43 :: a9.aA :: a9.aA :: a9.aA :: a9.aA :: a9.aA :: a9.aA :: a9.aA :: x51 :: x52 :: x53 :: x54 :: a9.aA :: a9.aA :: a9.aA :: a9.aA :: a9.aA :: a9.aA :: a9.aA :: a9.aA :: a9.aA :: a9.aA :: a9.aA :: a9.aA :: a9.aA :: a9.aA :: a9.aA :: a9.aA :: a9.aA :: a9.aA :: a9.aA :: a9.aA :: a9.aA :: a9.aA :: a9.aA :: a9.aA :: a9.aA :: x80 :: a9.aA :: a9.aA :: a9.aA :: a9.aA :: a9.aA :: a9.aA :: a9.aA :: []) h n := by
  intro m
  induction m with
  | zero =>
    intro i h n L t x2 x11 x13 x15 x16 x17 x22 x43 x51 x52 x53 x54 x80 hm hres hk hy hl hn hf
    have : i = A.made.length := by omega
    subst this
    rw [List.drop_length] at hres
    rw [bT]
    have hcc : ¬ (((A.made.length : Nat) : Int) < ((A.made.length : Nat) : Int)) := by omega
    simp only [FZ, bD, Try.f69, Option.getD_some, fgr, bor, List.getD_cons_zero, hcc, gE]
    exact hT h n L t _ _ _ _ _ _ _ _ _ _ _ _ _ hres.symm hk hy (by omega) hn hf
  | succ m ih =>
    intro i h n L t x2 x11 x13 x15 x16 x17 x22 x43 x51 x52 x53 x54 x80 hm hres hk hy hl hn hf
    have ha := hAp h hk
    have hil : i < A.made.length := by omega
    have hcc : (((i : Nat) : Int) < ((A.made.length : Nat) : Int)) := by omega
    have w1 : IntKind.i64.wrap (((i : Nat) : Int) + 1) = ((i + 1 : Nat) : Int) := by rw [w64 (by omega) (by have := ha.ml; omega)]; omega
    obtain ⟨sw, va⟩ := ha.m.at_ hil
    rw [← List.getElem_cons_drop hil] at hres
    have hvm := List.getElem_mem hil
    have hpv := hpn _ hvm
    have hsv := hsl _ hvm
    generalize A.made[i] = v at *
    rw [bT]
    simp only [FZ, bD, Try.f69, Option.getD_some, fgr, bor, List.getD_cons_zero, hcc, gE]
    rw [aH (ha.m.idx hil)]
    simp only [gE]
    rw [aH (va.all n)]
    simp only [gE]
    rw [cC eR rfl]
    simp only [cel, gE]
    have kd := va.s.kind
    refine dF (v := .agg (aN v sw)) eR rfl (bR va.ok.h va.ok.b) (cU kd.2.1) hf fun H1 r1 p1 f1 => ?_
    replace r1 : Row H1 n (aN v sw) := r1
    have O1 : Old h H1 n := fun j hj => p1 j (by omega)
    have k1 : ∀ j, K j → H1 j = h0 j := fun j q => by rw [p1 j (by have := hKn j q; omega)]; exact hk j q
    have y1 := hy.tH (n' := n + 1) (by omega) O1
    have s1 := hSt H1 (n + 1) (by omega) k1
    obtain ⟨x, lv, rs, ix, il, sa, sb, sc⟩ := s1
    simp only [bK, fgr, bQ, aJ]
    refine c9 ⟨rfl, ?_⟩
    simp only [tyr, aR, Nat.reduceAdd, gE]
    rw [aZ (rs.one (off := 0) rfl sL rfl)]
    simp only [tyr, aR, Nat.reduceAdd, gE]
    rw [aZ (j5 r1 va.ok)]
    simp only [hkr, Nat.reduceAdd, gE]
    rw [aZ (S6 s x lv I H1 (n + 1) rs il hI)]
    simp only [hkr, Nat.reduceAdd, gE]
    refine TN f1 (aw7 v.aP v.pn (((I.length : Nat) : Int) - 1) va.ok.h ix.k hL0 f1) fun v3 h3 n3 rr3 ww3 hn3 f3 ⟨o3, sA, e3, okA, bA, iA⟩ qr3 qw3 => ?_
    subst e3
    have csn : s < n3 := by have := sc s sb; omega
    have cr0 : ∀ id, id ∈ [s] → id < n3 ∨ n3 + 1 ≤ id := fun id q => by rw [List.mem_singleton] at q; omega
    have cr1 : ∀ id, id ∈ [n] → id < n3 ∨ n3 + 1 ≤ id := fun id q => by rw [List.mem_singleton] at q; omega
    have cr2 : ∀ id, id ∈ ([] : List Nat) → id < n3 ∨ n3 + 1 ≤ id := fun id q => by cases q
    have cr3 : ∀ id, id ∈ rr3 → id < n3 ∨ n3 + 1 ≤ id := fun id q => .inl (by have := qr3 id q; omega)
    have cw3 : ∀ id, id ∈ ww3 → id < n3 ∨ n3 + 1 ≤ id := fun id q => .inl (by have := qw3 id q; omega)
    simp only [Nat.reduceAdd, gE]
    refine KC eR rfl f3 fun H4 r4 o4 f4 => ?_
    simp only [Nat.reduceAdd, gE]
    refine kN (Row.write (v := .agg (aN ((atV L0 v.aP v.pn (((I.length : Nat) : Int) - 1)).getD noV) sA)) r4 eR (bR okA.h okA.b) (by show 0 + 70 ≤ 70; omega) (cU bA.kind.2.1)) ?_
    obtain ⟨H5, hH5⟩ : ∃ H5, H5 = upd H4 n3 (some (.row (.l (bV eQ.i.zero.cells 0 (a9.agg (aN ((atV L0 v.aP v.pn (((I.length : Nat) : Int) - 1)).getD noV) sA)).cells)) 31)) := ⟨_, rfl⟩
    show Fe _ _ _ _ _ _ _ _ _ _ (upd H4 n3 (some (.row (.l (bV eQ.i.zero.cells 0 (a9.agg (aN ((atV L0 v.aP v.pn (((I.length : Nat) : Int) - 1)).getD noV) sA)).cells)) 31))) _
    rw [← hH5]
    have o5 : ∀ j, j ≠ n3 → H5 j = h3 j := fun j hj => by rw [hH5, aK _ _ hj, o4 j hj]
    have f5 : bB H5 (n3 + 1) := by rw [hH5]; exact f4.upd (by omega)
    clear hH5
    simp only [fgr, Nat.reduceAdd, gE]
    refine ⟨(by (try simp (disch := first | assumption | omega) only [cM, gF]); repeat' (first | rfl | exact (Bool.or_eq_true _ _).mpr (.inr rfl) | refine (Bool.and_eq_true _ _).mpr ⟨?_, ?_⟩)), ?_⟩
    have k5 : ∀ j, K j → H5 j = h0 j := fun j q => by have := hKn j q; rw [o5 j (by omega), o3 j (by omega)]; exact k1 j q
    have O5 : Old H1 H5 (n + 1) := fun j hj => by rw [o5 j (by omega), o3 j hj]
    have y5 := y1.old (n' := n3 + 1) (by omega) O5
    have r5 : Row H5 n (aN v sw) := r1.aO (O5 n (by omega))
    have b5 : Bytes H5 sw v.aI := va.s.aO fun j q => by have := va.sn j q; rw [O5 j (by omega), O1 j (by omega)]
    cases hat : (atV L0 v.aP v.pn (((I.length : Nat) : Int) - 1)).isSome with
    | true =>
      have hnone : RES = none := by rw [← hres, kU, hat]; rfl
      simp only [fgr, bH, gE]
      exact hR _ _ _ _ _ _ _ _ _ _ _ _ _ _ _ _ _ _ _ _ _ _ hnone k5
    | false =>
    simp only [gE]
    rw [aH (fM r5 va.ok)]
    simp only [hkr, gE]
    refine aU f5 (aW5 v sw va.ok hpv hsv y5 b5 (fun j q => by have := va.sn j q; omega) (by omega) f5) fun v6 h6 n6 hn6 f6 ⟨k6, hh⟩ => ?_
    have k6' : ∀ j, K j → h6 j = h0 j := fun j q => by rw [k6 j (.inl q)]; exact k5 j q
    rcases hh with ⟨he, e6, y6⟩ | ⟨he, e6, y6⟩
    · subst e6
      have hnone : RES = none := by rw [← hres, kU, hat, AQ.2 he]; rfl
      simp only [fgr, bor, bH, Int.reduceEq, gE]
      exact hR _ _ _ _ _ _ _ _ _ _ _ _ _ _ _ _ _ _ _ _ _ _ hnone k6'
    · subst e6
      have hne : rH v L = false := by
        cases e : rH v L with
        | false => rfl
        | true => exact absurd (AQ.1 e) he
      rw [kU, hat, hne] at hres
      have r6 : Row h6 n (aN v sw) := r5.aO (k6 n (.inr ⟨Nat.le_refl _, by omega⟩))
      simp only [tyr, fgr, bor, bH, aR, gE]
      rw [aH (mU r6 va.ok)]
      simp only [tyr, fgr, lenOf, bor, bZ, convert, fV, pG, w1, gE]
      exact ih (i + 1) h6 n6 (kW L v) (mJ (t + mJ v.value)) _ _ _ _ _ _ _ _ _ _ _ _ _ (by omega) (by simpa using hres) k6' (y6.sub fun j q => .inl q) (by rw [xG]; omega) (by omega) f6
theorem yV {L : List Ver} {aP : List UInt8} {pn z : Int} {w : Ver} (h : atV L aP pn z = some w) : w ∈ L ∧ w.aP = aP ∧ w.pn = pn ∧ cI w z = true := by
  unfold atV at h
  have hm := List.mem_of_getLast? h
  obtain ⟨h1, h2⟩ := List.mem_filter.1 hm
  rw [Bool.and_eq_true] at h2
  have h3 := h2.1
  unfold same at h3
  simp only [Bool.and_eq_true, decide_eq_true_eq, beq_iff_eq] at h3
  exact ⟨h1, h3.1, h3.2, h2.2⟩
theorem NW (Q : dG) (ks : List Kf) (K T : Nat → Prop) (y c a b : Nat) (A : App) (mv sv : a9) (RES : Option (List Ver × Int)) (h0 : Hp) (n0 : Nat) (hKn : ∀ j, K j → j < n0) (hcK : K c)
    (hAp : ∀ h, (∀ j, K j → h j = h0 j) → jN h a b A mv sv) (hrc : Row h0 c (aX A mv sv))
    (hT : ∀ (h : Hp) (n : Nat) (L : List Ver) (t : Int) (x0 x2 x11 x13 x15 x16 x17 x19 x20 x21 x22 x43 x54 x80 : a9), RES = some (L, t) → (∀ j, K j → h j = h0 j) → Ixw K T h n y L → n0 ≤ n → bB h n →
      cT env 69 none Q ks (.exit 2) (x0 :: .ptr y 0 :: x2 :: .int .u64 t :: a9.aA :: a9.aA :: .ptr c 0 :: a9.aA :: .int .u64 0 :: .bool false :: a9.aA :: x11 :: a9.aA :: x13 :: a9.aA :: x15 :: x16 :: x17 :: a9.aA :: x19 :: x20 :: x21 :: x22 :: a9.aA :: a9.aA :: a9.aA :: a9.aA :: a9.aA :: a9.aA :: a9.aA :: a9.aA :: a9.aA :: a9.aA :: a9.aA :: a9.aA :: a9.aA :: a9.aA :: a9.aA :: a9.aA :: a9.aA :: a9.aA :: a9.aA :: a9.aA :: x43 :: a9.aA :: a9.aA :: a9.aA :: a9.aA :: a9.aA :: a9.aA :: a9.aA :: sv :: .int .i64 (A.bN.length : Nat) :: .int .i64 (A.bN.length : Nat) :: x54 :: a9.aA :: a9.aA :: a9.aA :: a9.aA :: a9.aA :: a9.aA :: a9.aA :: a9.aA :: a9.aA :: a9.aA :: a9.aA :: a9.aA :: a9.aA :: a9.aA :: a9.aA :: a9.aA :: a9.aA :: a9.aA :: a9.aA :: a9.aA :: a9.aA :: a9.aA :: a9.aA :: a9.aA :: a9.aA :: x80 :: a9.aA :: a9.aA :: a9.aA :: a9.aA :: a9.aA :: a9.aA :: a9.aA :: []) h n)
    (hR : ∀ (h : Hp) (n : Nat) (x0 x1 x2 x3 x6 x11 x13 x15 x16 x17 x19 x20 x21 x22 x43 x51 x52 x53 x54 x80 : a9), RES = none → (∀ j, K j → h j = h0 j) → cT env 69 none Q ks .ret (x0 :: x1 :: x2 :: x3 :: a9.aA :: a9.aA :: x6 :: a9.aA :: .int .u64 0 :: .bool false :: a9.aA :: x11 :: a9.aA :: x13 :: a9.aA :: x15 :: x16 :: x17 :: a9.aA :: x19 :: x20 :: x21 :: x22 :: a9.aA :: a9.aA :: a9.aA :: a9.aA :: a9.aA :: a9.aA :: a9.aA :: a9.aA :: a9.aA :: a9.aA :: a9.aA :: a9.aA :: a9.aA :: a9.aA :: a9.aA :: a9.aA :: a9.aA :: a9.aA :: a9.aA :: a9.aA :: x43 :: a9.aA :: a9.aA :: a9.aA :: a9.aA :: a9.aA :: a9.aA :: a9.aA :: x51 :: x52 :: x53 :: x54 :: a9.aA :: a9.aA :: a9.aA :: a9.aA :: a9.aA :: a9.aA :: a9.aA :: a9.aA :: a9.aA :: a9.aA :: a9.aA :: a9.aA :: a9.aA :: a9.aA :: a9.aA :: a9.aA :: a9.aA :: a9.aA :: a9.aA :: a9.aA :: a9.aA :: a9.aA :: a9.aA :: a9.aA :: a9.aA :: x80 :: a9.aA :: a9.aA :: a9.aA :: a9.aA :: a9.aA :: a9.aA :: a9.aA :: []) h n) :
    ∀ (m i : Nat) (h : Hp) (n : Nat) (L : List Ver) (t : Int) (x0 x2 x11 x13 x15 x16 x17 x19 x20 x21 x22 x43 x54 x80 : a9), i + m = A.bN.length → jM A.bJ (A.bN.drop i) L t = RES → (∀ j, K j → h j = h0 j) → Ixw K T h n y L → L.length ≤ 900000 → n0 ≤ n → bB h n →
      Run env 69 none Q (.loop FY) ks (x0 :: .ptr y 0 :: x2 :: .int .u64 t :: a9.aA :: a9.aA :: .ptr c 0 :: a9.aA :: .int .u64 0 :: .bool false :: a9.aA :: x11 :: a9.aA :: x13 :: a9.aA :: x15 :: x16 :: x17 :: a9.aA :: x19 :: x20 :: x21 :: x22 :: a9.aA :: a9.aA :: a9.aA :: a9.aA :: a9.aA :: a9.aA :: a9.aA :: a9.aA :: a9.aA :: a9.aA :: a9.aA :: a9.aA :: a9.aA :: a9.aA :: a9.aA :: a9.aA :: a9.aA :: a9.aA :: a9.aA :: a9.aA :: x43 :: a9.aA :: a9.aA :: a9.aA :: a9.aA :: a9.aA :: a9.aA :: a9.aA :: sv :: .int .i64 (A.bN.length : Nat) :: .int .i64 (i : Nat) :: x54 :: a9.aA :: a9.aA :: a9.aA :: a9.aA :: a9.aA :: a9.aA :: a9.aA :: a9.aA :: a9.aA :: a9.aA :: a9.aA :: a9.aA :: a9.aA :: a9.aA :: a9.aA :: a9.aA :: a9.aA :: a9.aA :: a9.aA :: a9.aA :: a9.aA :: a9.aA :: a9.aA :: a9.aA :: a9.aA :: x80 :: a9.aA :: a9.aA :: a9.aA :: a9.aA :: a9.aA :: a9.aA :: a9.aA :: []) h n := by
  intro m
  induction m with
  | zero =>
    intro i h n L t x0 x2 x11 x13 x15 x16 x17 x19 x20 x21 x22 x43 x54 x80 hm hres hk hy hl hn hf
    have : i = A.bN.length := by omega
    subst this
    rw [List.drop_length] at hres
    rw [bT]
    have hcc : ¬ (((A.bN.length : Nat) : Int) < ((A.bN.length : Nat) : Int)) := by omega
    simp only [FY, bD, Try.f69, Option.getD_some, fgr, bor, List.getD_cons_zero, List.getD_cons_succ, hcc, gE]
    exact hT h n L t _ _ _ _ _ _ _ _ _ _ _ _ _ _ hres.symm hk hy hn hf
  | succ m ih =>
    intro i h n L t x0 x2 x11 x13 x15 x16 x17 x19 x20 x21 x22 x43 x54 x80 hm hres hk hy hl hn hf
    have ha := hAp h hk
    have hil : i < A.bN.length := by omega
    have hcc : (((i : Nat) : Int) < ((A.bN.length : Nat) : Int)) := by omega
    have w1 : IntKind.i64.wrap (((i : Nat) : Int) + 1) = ((i + 1 : Nat) : Int) := by rw [w64 (by omega) (by have := ha.sl; omega)]; omega
    obtain ⟨ok, hld⟩ := ha.s.all (n := n) hil
    rw [← List.getElem_cons_drop hil] at hres
    generalize A.bN[i] = v at *
    rw [bT]
    simp only [FY, bD, Try.f69, Option.getD_some, fgr, bor, List.getD_cons_zero, List.getD_cons_succ, hcc, gE]
    rw [aH (ha.s.idx hil)]
    simp only [gE]
    rw [aH hld]
    simp only [gE]
    rw [cC z6 rfl]
    simp only [cel, gE]
    refine dF (v := .agg (eC v)) z6 rfl (lK ok) (rO v) hf fun H1 r1 p1 f1 => ?_
    replace r1 : Row H1 n (eC v) := r1
    have O1 : Old h H1 n := fun j hj => p1 j (by omega)
    have k1 : ∀ j, K j → H1 j = h0 j := fun j q => by rw [p1 j (by have := hKn j q; omega)]; exact hk j q
    have y1 := hy.tH (n' := n + 1) (by omega) O1
    have rc1 : Row H1 c (aX A mv sv) := hrc.aO (k1 c hcK)
    simp only [tyr, fgr, aR, gE]
    rw [aH (wD r1 ok)]
    simp only [tyr, aR, gE]
    rw [aH (uZ rc1)]
    simp only [hkr, gE]
    refine aU f1 (aw7 v.aP v.pn A.bJ ok.h y1.k hl f1) fun v3 h3 n3 hn3 f3 ⟨o3, sA, e3, okA, bA, iA⟩ => ?_
    subst e3
    simp only [gE]
    rw [cC eR rfl]
    simp only [cel, gE]
    refine dF (v := .agg (aN ((atV L v.aP v.pn A.bJ).getD noV) sA)) eR rfl (bR okA.h okA.b) (cU bA.kind.2.1) f3 fun H4 r4 p4 f4 => ?_
    replace r4 : Row H4 n3 (aN ((atV L v.aP v.pn A.bJ).getD noV) sA) := r4
    have O4 : Old H1 H4 (n + 1) := fun j hj => by rw [p4 j (by omega), o3 j hj]
    have k4 : ∀ j, K j → H4 j = h0 j := fun j q => by have := hKn j q; rw [O4 j (by omega)]; exact k1 j q
    have y4 := y1.old (n' := n3 + 1) (by omega) O4
    have s4 : Row H4 n (eC v) := r1.aO (O4 n (by omega))
    have rc4 : Row H4 c (aX A mv sv) := hrc.aO (k4 c hcK)
    cases hat : atV L v.aP v.pn A.bJ with
    | none =>
      have hnone : RES = none := by rw [← hres, jM, hat]
      simp only [fgr, unOp, bH, Option.isSome_none, gE]
      exact hR _ _ _ _ _ _ _ _ _ _ _ _ _ _ _ _ _ _ _ _ _ _ hnone k4
    | some w =>
    rw [hat] at r4 okA
    simp only [Option.getD_some] at r4 okA
    obtain ⟨hwL, hwh, hwp, _⟩ := yV hat
    simp only [tyr, fgr, unOp, aR, Option.isSome_some, gE]
    rw [aH (wD s4 ok)]
    simp only [tyr, aR, gE]
    rw [aH (fZ r4 okA)]
    simp only [tyr, aR, gE]
    rw [aH (uZ rc4)]
    simp only [tyr, aR, gE]
    rw [aH (RU s4 ok)]
    simp only [hkr, gE]
    have y4' := y4.tH (h' := H4) (n' := n3 + 1) (Nat.le_refl _) (Old.refl _ _)
    have y4c : Ixw (fun j => (K j ∨ (n ≤ j ∧ j < n + 1)) ∨ j = n3) T H4 (n3 + 1) y L := by
      have := (y1.old (n' := n3) hn3 o3).tH (h' := H4) (n' := n3 + 1) (by omega) (fun j hj => p4 j (by omega))
      exact this.sub fun j q => by
        rcases q with q | q
        · exact .inl q
        · exact .inr (by omega)
    refine aU f4 (aW3 v.aP v.pn w.made A.bJ v.by_ ok.h ok.b y4c hl f4) fun v6 h6 n6 hn6 f6 ⟨k6, hh⟩ => ?_
    have k6' : ∀ j, K j → h6 j = h0 j := fun j q => by rw [k6 j (.inl (.inl q))]; exact k4 j q
    rcases hh with ⟨he, e6, y6⟩ | ⟨w2, hw2, hk2, h1, h2, h3', e6, y6⟩
    · subst e6
      have hw := he w hwL (by rw [← hwh, ← hwp]; exact C3 w)
      have hnone : RES = none := by
        rw [← hres, jM, hat]
        simp only
        rw [if_neg]
        simp only [Bool.and_eq_true, decide_eq_true_eq]
        omega
      simp only [fgr, bor, bH, Int.reduceEq, gE]
      exact hR _ _ _ _ _ _ _ _ _ _ _ _ _ _ _ _ _ _ _ _ _ _ hnone k6'
    · subst e6
      have hww : w2 = w := by
        refine kE hy.rL hw2 hwL ?_
        have e := AS hk2
        have : eO w2 (key w.aP w.pn w.made) = 0 := by rw [hwh, hwp]; exact hk2
        exact this
      subst hww
      rw [jM, hat] at hres
      simp only at hres
      rw [if_pos (by simp only [Bool.and_eq_true, decide_eq_true_eq]; omega)] at hres
      have r6 : Row h6 n3 (aN w2 sA) := r4.aO (k6 n3 (.inr rfl))
      simp only [tyr, fgr, bor, bH, aR, gE]
      rw [aH (mU r6 okA)]
      simp only [tyr, fgr, lenOf, bor, bZ, convert, fV, pG, w1, gE]
      exact ih (i + 1) h6 n6 (nL L w2 (fT w2 A.bJ v.by_)) (mJ (t - mJ w2.value)) _ _ _ _ _ _ _ _ _ _ _ _ _ _ (by omega) hres k6' (y6.sub fun j q => .inl (.inl q)) (by rw [wY]; exact hl) (by omega) f6
def tQ (L0 : List Ver) (tip : Int) (A : App) (L : List Ver) (t : Int) : Option (List Ver × Int) := match kU L0 tip A.made L t with
  | some r => jM A.bJ A.bN r.1 r.2
  | none => none
theorem f69 (W K T : Nat → Prop) (s y a b : Nat) (A : App) (mv sv : a9) (L0 L : List Ver) (I : List Inf) (t : Int) (h : Hp) (n : Nat) (hy : Ixw K T h n y L) (hK : ∀ j, K j → j < n)
    (hSt : ∀ h' n', n ≤ n' → (∀ j, K j → h' j = h j) → St W h' n' s L0 I) (hAp : ∀ h', (∀ j, K j → h' j = h j) → jN h' a b A mv sv) (hb : b ≤ n)
    (hpn : ∀ v ∈ A.made, 0 ≤ v.pn) (hsl : ∀ v ∈ A.made, v.aI.length ≤ 1000000) (hI : I.length ≤ 1000000) (hL0 : L0.length ≤ 900000) (hL : L.length + A.made.length ≤ 900000) (hf : bB h n) :
    Wp (aQ env (aE env) 69 [.ptr s 0, .ptr y 0, .agg (aX A mv sv), .int .u64 t]) h n fun v' h' n' => (∀ j, K j → h' j = h j) ∧
      ((∃ L' t', tQ L0 (((I.length : Nat) : Int) - 1) A L t = some (L', t') ∧ v' = .tup [.int .u64 t', .bool true] ∧ Ixw K T h' n' y L') ∨ (tQ L0 (((I.length : Nat) : Int) - 1) A L t = none ∧ v' = .tup [.int .u64 0, .bool false])) := by
  have ha := hAp h fun j q => rfl
  refine aW aT0 aJ2 ?_
  simp only [aa3, Try.f69, Option.getD_some, List.replicate, Nat.reduceAdd, Nat.reduceSub, gE]
  refine cX (v := .agg (aX A mv sv)) mA rfl hf fun H1 r1 o1 f1 => ?_
  replace r1 : Row H1 n (aX A mv sv) := r1
  have y1 := hy.tH (n' := n + 1) (by omega) (fun j hj => o1 j (by omega))
  have y1' : Ixw (fun j => K j ∨ j = n) T H1 (n + 1) y L := y1.sub fun j q => q.elim .inl fun q => .inr (by omega)
  have kk : ∀ h' : Hp, (∀ j, (K j ∨ j = n) → h' j = H1 j) → ∀ j, K j → h' j = h j := fun h' q j w => by rw [q j (.inl w), o1 j (by have := hK j w; omega)]
  have a1 := hAp H1 (kk H1 fun j _ => rfl)
  simp only [tyr, fgr, aR, gE]
  rw [aH (mO r1 ha.b)]
  simp only [fgr, builtin, a1.m.len, gE]
  refine NX _ _ W (fun j => K j ∨ j = n) T s y n a b A mv sv L0 I (kU L0 (((I.length : Nat) : Int) - 1) A.made L t) H1 (n + 1) (fun j q => by rcases q with q | q; have := hK j q; omega; omega) (.inr rfl) (fun h' n' q w => hSt h' n' (by omega) (kk h' w)) (fun h' w => hAp h' (kk h' w)) (by omega) r1 hpn hsl hI hL0 ?_ ?_ A.made.length 0 H1 (n + 1) L t _ _ _ _ _ _ _ _ _ _ _ _ _ (by omega) rfl (fun j _ => rfl) y1' (by omega) (Nat.le_refl _) f1
  · intro h2 n2 L2 t2 x2 x11 x13 x15 x16 x17 x22 x43 x51 x52 x53 x54 x80 hres k2 y2 hl2 hn2 f2
    have rc2 : Row h2 n (aX A mv sv) := r1.aO (k2 n (.inr rfl))
    have a2 := hAp h2 (kk h2 k2)
    simp only [tyr, aR, gE]
    rw [aH (uY rc2 ha.b)]
    simp only [fgr, builtin, a2.s.len, gE]
    refine NW _ _ (fun j => K j ∨ j = n) T y n a b A mv sv (jM A.bJ A.bN L2 t2) h2 n2 (fun j q => by rcases q with q | q; have := hK j q; omega; omega) (.inr rfl) (fun h' w => hAp h' (kk h' fun j q => (w j q).trans (k2 j q))) rc2 ?_ ?_ A.bN.length 0 h2 n2 L2 t2 _ _ _ _ _ _ _ _ _ _ _ _ _ _ (by omega) rfl (fun j _ => rfl) y2 hl2 (Nat.le_refl _) f2
    · intro h3 n3 L3 t3 x0 x2 x11 x13 x15 x16 x17 x19 x20 x21 x22 x43 x54 x80 hres3 k3 y3 hn3 f3
      simp only [fgr, gE]
      exact ⟨kk h3 fun j q => (k3 j q).trans (k2 j q), .inl ⟨L3, t3, by unfold tQ; rw [hres]; exact hres3, rfl, y3.sub fun j q => .inl q⟩⟩
    · intro h3 n3 x0 x1 x2 x3 x6 x11 x13 x15 x16 x17 x19 x20 x21 x22 x43 x51 x52 x53 x54 x80 hres3 k3
      simp only [bK, nth, and_true, true_and]
      exact ⟨kk h3 fun j q => (k3 j q).trans (k2 j q), .inr (by unfold tQ; rw [hres]; exact hres3)⟩
  · intro h3 n3 x0 x1 x2 x3 x6 x11 x13 x15 x16 x17 x19 x20 x21 x22 x43 x51 x52 x53 x54 x80 hres3 k3
    simp only [bK, nth, and_true, true_and]
    exact ⟨kk h3 k3, .inr (by unfold tQ; rw [hres3])⟩
def iH (I : List Inf) : Inf := (I.getLast?).getD gH
theorem b61 : build env 61 [] = M.pure (.agg (bL gH)) := rfl
theorem f68 (s x : Nat) (lv : a9) (I : List Inf) (h : Hp) (n : Nat) (hr : Row h s [.ptr x 0, lv]) (hi : IL h lv I) (hs : s < n) (hlv : ∀ j, aT lv = some j → j < n) (hc : I.length ≤ 1000000) (hf : bB h n) :
    Wp (aQ env (aE env) 68 [.ptr s 0]) h n fun v' h' n' => v' = .agg (bL (iH I)) ∧ (iH I).block.length = 32 ∧ Old h h' n := by
  refine aW aT1 aJ3 ?_
  simp only [aa4, Try.f68, Option.getD_some, List.replicate, Nat.reduceSub, gE]
  rw [cC gV rfl]
  obtain ⟨H1, hH1⟩ : ∃ H1, H1 = upd h n (some (.row (.l (bL gH)) 61)) := ⟨_, rfl⟩
  have g1 : H1 n = some (.row (.l (bL gH)) 61) := by rw [hH1, aM]
  have o1 : ∀ j, j ≠ n → H1 j = h j := fun j hj => by rw [hH1, aK _ _ hj]
  have f1 : bB H1 (n + 1) := by rw [hH1]; exact hf.new
  show Ops _ _ _ _ _ _ _ _ (upd h n (some (.row (.l (bL gH)) 61))) _
  rw [← hH1]
  clear hH1
  have r1 : Row H1 s [.ptr x 0, lv] := hr.aO (o1 s (by omega))
  have i1 : IL H1 lv I := hi.aO fun j q => o1 j (by have := hlv j q; omega)
  simp only [tyr, fgr, aR, gE]
  rw [aH (r1.one (off := 1) rfl uE rfl)]
  simp only [fgr, builtin, bor, i1.len, gE]
  by_cases h0 : I.length = 0
  · have hI : I = [] := List.eq_nil_of_length_eq_zero h0
    subst hI
    simp only [Int.cast_ofNat_Int, b61, gE]
    rw [dE (Row.write (v := .agg (bL gH)) g1 gV (bX fG) (by rw [bX fG]; show 0 + 37 ≤ 37; omega) (eN _))]
    rw [eB (by rfl)]
    simp only [bK, fgr, bQ, nth, aJ, cel, true_and]
    refine eK (Row.gY (cs := bL gH) ⟨61, aM _ _ _⟩ gV rfl (bX fG)) (aS.2 ?_)
    exact ⟨rfl, fG, fun j hj => by rw [aK _ _ (by omega), o1 j (by omega)]⟩
  · have hb : (((I.length : Nat) : Int) == 0) = false := by rw [beq_eq_false_iff_ne]; omega
    have h0' : ¬ ((I.length : Nat) : Int) = 0 := by omega
    simp only [bK, decide_false, h0']
    have hil : I.length - 1 < I.length := by omega
    have w1 : IntKind.i64.wrap (((I.length : Nat) : Int) - 1) = ((I.length - 1 : Nat) : Int) := by rw [w64 (by omega) (by omega)]; omega
    have hlast : iH I = I[I.length - 1] := by
      unfold iH
      rw [List.getLast?_eq_getElem?, List.getElem?_eq_getElem hil]; rfl
    obtain ⟨bok, hld⟩ := i1.all (n := n + 1) hil
    rw [hlast]
    refine c9 ⟨rfl, ?_⟩
    simp only [tyr, aR, Nat.reduceAdd, gE]
    rw [aZ (r1.one (off := 1) rfl uE rfl)]
    simp only [tyr, aR, Nat.reduceAdd, gE]
    rw [aZ (r1.one (off := 1) rfl uE rfl)]
    simp only [builtin, bor, bZ, Nat.reduceAdd, i1.len, w1, gE]
    rw [aZ (i1.idx hil)]
    simp only [Nat.reduceAdd, gE]
    rw [aZ hld]
    simp only [Nat.reduceAdd, gE]
    refine kN (Row.write (v := .agg (bL I[I.length - 1])) g1 gV (bX bok) (by rw [bX fG]; show 0 + 37 ≤ 37; omega) (eN _)) ?_
    rw [eB (by show (bL _).length = _; rw [bX bok, bX fG])]
    simp only [oD, bK, fgr, bQ, nth, aJ, cel, Nat.reduceAdd, true_and]
    refine ⟨(by (try simp (disch := first | assumption | omega) only [cM, gF]); repeat' (first | rfl | exact (Bool.or_eq_true _ _).mpr (.inr rfl) | refine (Bool.and_eq_true _ _).mpr ⟨?_, ?_⟩)), ?_⟩
    refine eK (Row.gY (cs := bL I[I.length - 1]) ⟨61, aM _ _ _⟩ gV rfl (bX bok)) (aS.2 ?_)
    exact ⟨rfl, bok, fun j hj => by rw [aK _ _ (by omega), o1 j (by omega)]⟩
def qV (z : Int) : Int := IntKind.i64.wrap z
def vG (t : Int) : Bool := decide (2100000000000000 < t)
def lQ (I : List Inf) (A : App) (t : Int) : Inf := ⟨A.bJ, A.block, qV (qV ((iH I).jA + (A.made.length : Nat)) - (A.bN.length : Nat)), qV t, qV ((iH I).dX + A.dX), qV ((iH I).left + A.left)⟩
def eD (L : List Ver) (I : List Inf) (A : App) : Option (List Ver × List Inf) := match lZ A && decide (A.bJ = ((I.length : Nat) : Int)) with
  | false => none
  | true => match tQ L (((I.length : Nat) : Int) - 1) A L (mJ (iH I).eZ) with
    | none => none
    | some r => match vG r.2 || vG (qV ((iH I).dX + A.dX)) || vG (qV ((iH I).left + A.left)) with
      | true => none
      | false => some (r.1, I ++ [lQ I A r.2])
def HB (o : Option (List Ver × List Inf)) : Int := match o with
  | some _ => 0
  | none => 220
theorem uW {A : App} (h : lZ A = true) : ∀ v ∈ A.made, v.aI.length ≤ 2000 ∧ mB A.bJ v = true := fun v hv => by
  obtain ⟨k, hk, rfl⟩ := List.mem_iff_getElem.1 hv
  unfold lZ iQ at h
  rw [Bool.and_eq_true, List.all_eq_true] at h
  have := h.2 k (List.mem_range.2 (by omega))
  unfold xR at this
  rw [if_pos hk] at this
  unfold JS at this
  rw [List.getElem?_eq_getElem hk] at this
  simp only [Bool.and_eq_true] at this
  refine ⟨?_, this.1⟩
  have := this.1
  unfold mB at this
  simp only [Bool.and_eq_true, decide_eq_true_eq] at this
  exact this.2
def i0 : a9 := .int .i64 0
theorem U3 {i : Inf} (hb : i.block.length = 32) : build env 61 [(0, .int .i64 i.bJ), (1, .agg (i.block.map u8)), (2, .int .i64 i.jA), (3, .int .i64 i.eZ), (4, .int .i64 i.dX), (5, .int .i64 i.left)] = M.pure (.agg (bL i)) := by
  have hB : (a9.agg (i.block.map u8)).cells.length = 32 := by show (i.block.map u8).length = 32; rw [List.length_map, hb]
  have hB' : (i.block.map u8).length = 32 := by rw [List.length_map, hb]
  have e1 : ∀ pl : Nat → Option (Nat × Nat), pl 0 = some (0, 1) → pl 1 = some (1, 32) → pl 2 = some (33, 1) → pl 3 = some (34, 1) → pl 4 = some (35, 1) → pl 5 = some (36, 1) →
      fill pl uC.i.zero.cells [(0, .int .i64 i.bJ), (1, .agg (i.block.map u8)), (2, .int .i64 i.jA), (3, .int .i64 i.eZ), (4, .int .i64 i.dX), (5, .int .i64 i.left)] = some (bL i) := fun pl p0 p1 p2 p3 p4 p5 => by
    rw [show uC.i.zero.cells = [] ++ [i0] ++ (z32.map u8 ++ [i0, i0, i0, i0]) from rfl, gN p0 rfl rfl rfl rfl]
    rw [show [] ++ (a9.int .i64 i.bJ).cells ++ (z32.map u8 ++ [i0, i0, i0, i0]) = [.int .i64 i.bJ] ++ z32.map u8 ++ [i0, i0, i0, i0] from rfl, gN p1 rfl rfl hB rfl]
    rw [show [a9.int .i64 i.bJ] ++ (a9.agg (i.block.map u8)).cells ++ [i0, i0, i0, i0] = (.int .i64 i.bJ :: i.block.map u8) ++ [i0] ++ [i0, i0, i0] by simp [a9.cells], gN p2 (by simp [hb]) rfl rfl rfl]
    rw [show (a9.int .i64 i.bJ :: i.block.map u8) ++ (a9.int .i64 i.jA).cells ++ [i0, i0, i0] = (.int .i64 i.bJ :: i.block.map u8 ++ [.int .i64 i.jA]) ++ [i0] ++ [i0, i0] by simp [a9.cells], gN p3 (by simp [hb]) rfl rfl rfl]
    rw [show (a9.int .i64 i.bJ :: i.block.map u8 ++ [.int .i64 i.jA]) ++ (a9.int .i64 i.eZ).cells ++ [i0, i0] = (.int .i64 i.bJ :: i.block.map u8 ++ [.int .i64 i.jA, .int .i64 i.eZ]) ++ [i0] ++ [i0] by simp [a9.cells], gN p4 (by simp [hb]) rfl rfl rfl]
    rw [show (a9.int .i64 i.bJ :: i.block.map u8 ++ [.int .i64 i.jA, .int .i64 i.eZ]) ++ (a9.int .i64 i.dX).cells ++ [i0] = (.int .i64 i.bJ :: i.block.map u8 ++ [.int .i64 i.jA, .int .i64 i.eZ, .int .i64 i.dX]) ++ [i0] ++ [] by simp [a9.cells], gN p5 (by simp [hb]) rfl rfl rfl]
    simp only [fill, bL, a9.cells]
    simp
  have e2 : build env 61 [(0, .int .i64 i.bJ), (1, .agg (i.block.map u8)), (2, .int .i64 i.jA), (3, .int .i64 i.eZ), (4, .int .i64 i.dX), (5, .int .i64 i.left)] = (fS "build" (fill ([(0, 1), (1, 32), (33, 1), (34, 1), (35, 1), (36, 1)][·]?) uC.i.zero.cells [(0, .int .i64 i.bJ), (1, .agg (i.block.map u8)), (2, .int .i64 i.jA), (3, .int .i64 i.eZ), (4, .int .i64 i.dX), (5, .int .i64 i.left)])).bind fun cs => M.pure (.agg cs) := rfl
  rw [e2, e1 _ rfl rfl rfl rfl rfl rfl]
  rfl
theorem aX2 {X : List a9} (hX : X.length = 37) : buildSlice env 57 1 [(0, .agg X)] = (newRow env 61 X).bind fun id => M.pure (.sl id 0 1 (some 1) 37) := by
  have e1 : fill (fun k => some (k * 37, 37)) (eS uC.i.zero.cells 1) [(0, .agg X)] = some X := by
    have : eS uC.i.zero.cells 1 = [] ++ uC.i.zero.cells ++ [] := rfl
    rw [this, gN (off := 0) (sz := 37) (pre := []) (mid := uC.i.zero.cells) (eV := []) (v := .agg X) (rest := []) rfl rfl rfl hX rfl]
    simp [fill, a9.cells]
  have e2 : buildSlice env 57 1 [(0, .agg X)] = (fS "buildSlice" (fill (fun k => some (k * 37, 37)) (eS uC.i.zero.cells 1) [(0, .agg X)])).bind fun cs => (newRow env 61 cs).bind fun id => M.pure (.sl id 0 1 (some 1) 37) := rfl
  rw [e2, e1]
  rfl
end Go.Am.Ytlgebaofkolkoaa
