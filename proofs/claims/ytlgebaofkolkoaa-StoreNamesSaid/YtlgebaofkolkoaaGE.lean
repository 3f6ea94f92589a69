/- What the statement reaches, gone through; and the abstract machine that goes through it. -/
import Derived.Test.YtlgebaofkolkoaaGD
set_option linter.unusedSimpArgs false
set_option linter.unusedVariables false
set_option linter.defProp false
set_option maxRecDepth 10000
namespace Go.Am.Ytlgebaofkolkoaa
open Go Go.Am Go.Proofs
set_option maxHeartbeats 4000000 in
theorem f37 (x : Nat) (aO : List UInt8) (pn z : Int) (hl : aO.length = 32) (L : List Ver) (D M : Nat → Prop) (h : Hp) (n : Nat) (hs : Ix h n D M x L) (hc : L.length ≤ 1000000) (hf : bG h n) :
    Wp (bM env (aY env) 37 [.ptr x 0, .agg (aX aO pn), .int .i64 z]) h n fun v' h' n' => Old h h' n ∧ ∃ k, pos false L (key aO pn 0) ≤ k ∧ (∀ i (hi : i < L.length), pos false L (key aO pn 0) ≤ i → i < k → same aO pn L[i] = true) ∧ (∀ hk : k < L.length, same aO pn L[k] = false) ∧
      ((fnd L (pos false L (key aO pn 0)) k z = none ∧ v' = .tup [.agg fX.i.zero.cells, .bool false]) ∨ ∃ w s', fnd L (pos false L (key aO pn 0)) k z = some w ∧ v' = .tup [.agg (aK w s'), .bool true] ∧ w ∈ L ∧ Bytes h' s' w.aL ∧ ∀ j, bB s' = some j → n ≤ j ∧ j < n') := by
  obtain ⟨⟨S, s0, rS, perm⟩, rL, ok⟩ := hs
  obtain ⟨vl, vs, xl, xs, iv, mx, ml, ms, mn⟩ := s0
  refine aZ aA0 ap4 ?_
  simp only [WC, Try.f37, Option.getD_some, List.replicate, Nat.reduceAdd, Nat.reduceSub, gE]
  refine dU (v := .agg (aX aO pn)) j7 rfl hf fun H1 r1 o1 f1 => ?_
  simp only [gE]
  refine dU (v := .int .i64 z) ti3 rfl f1 fun H2 r2 o2 f2 => ?_
  simp only [gE]
  rw [cD eB rfl]
  obtain ⟨H3, hH3⟩ : ∃ H3, H3 = upd H2 (n + 1 + 1) (some (Blk.row (bK.l fX.i.zero.cells) 31)) := ⟨_, rfl⟩
  show Ops env 37 none _ _ _ _ _ (upd H2 (n + 1 + 1) (some (Blk.row (bK.l fX.i.zero.cells) 31))) _
  rw [← hH3]
  have f3 : bG H3 (n + 1 + 1 + 1) := by rw [hH3]; exact f2.new
  have o3 : ∀ j, j ≠ n + 1 + 1 → H3 j = H2 j := fun j hj => by rw [hH3, aG _ _ hj]
  have r3 : H3 (n + 1 + 1) = some (Blk.row (bK.l fX.i.zero.cells) 31) := by rw [hH3, aP]
  clear hH3
  simp only [tyr, fgr, cel, alloc, bW, newRow, gE]
  have r1' : Row (upd H3 (n + 1 + 1 + 1) (some (Blk.row (bK.l [a9.dP]) 128))) n (aX aO pn) := ((r1.aS (o2 n (by omega))).aS (o3 n (by omega))).upd (by omega)
  rw [aI (show Rd (load env 28 (.ptr n 0)) _ _ [n] (.agg (aX aO pn)) from Row.gT r1' j7 rfl (c9 hl))]
  simp only [hkr, gE]
  refine dA (f81 x aO pn _ _) ?_
  simp only [bP, fgr, bX, put, aE]
  refine lS (g := 106) (first := []) (cap := [.ptr (n + 1 + 1 + 1 + 1) 0, .ptr (n + 1 + 1 + 1 + 1 + 1) 0]) rfl rfl ?_
  let TM : List a9 := (.ptr x 0 :: .agg (aX aO pn) :: .int .i64 z :: a9.aA :: .ptr n 0 :: .ptr (n + 1) 0 :: .ptr (n + 1 + 1) 0 :: .bool false :: .ptr (n + 1 + 1 + 1) 0 :: undef :: a9.aA :: a9.aA :: .fn (.func 106) [] [.ptr (n + 1 + 1 + 1 + 1) 0, .ptr (n + 1 + 1 + 1 + 1 + 1) 0] :: undef :: a9.aA :: a9.aA :: a9.aA :: a9.aA :: a9.aA :: undef :: a9.aA :: a9.aA :: undef :: a9.aA :: a9.aA :: a9.aA :: a9.aA :: a9.aA :: [])
  obtain ⟨H6, hH6⟩ : ∃ H6, H6 = upd (upd (upd (upd H3 (n + 1 + 1 + 1) (some (Blk.row (bK.l [a9.dP]) 128))) (n + 1 + 1 + 1 + 1) (some (Blk.row (bK.l [a9.ptr x 0]) 56))) (n + 1 + 1 + 1 + 1 + 1) (some (Blk.row (bK.l (aX aO pn)) 28))) (n + 1 + 1 + 1 + 1 + 1 + 1) (some (Blk.loop (L37 TM))) := ⟨_, rfl⟩
  show Wp (gX env (aY env) 106 [a9.fn (Fn.yield (n + 1 + 1 + 1 + 1 + 1 + 1)) [] [], a9.ptr (n + 1 + 1 + 1 + 1) 0, a9.ptr (n + 1 + 1 + 1 + 1 + 1) 0]) (upd (upd (upd (upd H3 (n + 1 + 1 + 1) (some (Blk.row (bK.l [a9.dP]) 128))) (n + 1 + 1 + 1 + 1) (some (Blk.row (bK.l [a9.ptr x 0]) 56))) (n + 1 + 1 + 1 + 1 + 1) (some (Blk.row (bK.l (aX aO pn)) 28))) (n + 1 + 1 + 1 + 1 + 1 + 1) (some (Blk.loop (L37 TM)))) _ _
  rw [SH, ← hH6]
  have f6 : bG H6 (n + 1 + 1 + 1 + 1 + 1 + 1 + 1) := by rw [hH6]; exact f3.new.new.new.new
  have old6 : Old h H6 n := fun j hj => by rw [hH6, aG _ _ (by omega), aG _ _ (by omega), aG _ _ (by omega), aG _ _ (by omega), o3 j (by omega), o2 j (by omega), o1 j (by omega)]
  have g1 : Row H6 (n + 1) [.int .i64 z] := by rw [hH6]; exact ((((r2.aS (o3 (n + 1) (by omega))).upd (by omega)).upd (by omega)).upd (by omega)).upd (by omega)
  have g2 : H6 (n + 1 + 1) = some (Blk.row (bK.l fX.i.zero.cells) 31) := by rw [hH6, aG _ _ (by omega), aG _ _ (by omega), aG _ _ (by omega), aG _ _ (by omega)]; exact r3
  have g3 : H6 (n + 1 + 1 + 1) = some (Blk.row (bK.l [a9.dP]) 128) := by rw [hH6, aG _ _ (by omega), aG _ _ (by omega), aG _ _ (by omega), aP]
  have g4 : Row H6 (n + 1 + 1 + 1 + 1) [.ptr x 0] := by rw [hH6]; exact ((Row.new _ _ _ _).upd (by omega)).upd (by omega)
  have g5 : Row H6 (n + 1 + 1 + 1 + 1 + 1) (aX aO pn) := by rw [hH6]; exact (Row.new _ _ _ _).upd (by omega)
  have g6 : H6 (n + 1 + 1 + 1 + 1 + 1 + 1) = some (.loop (L37 TM)) := by rw [hH6, aP]
  clear hH6
  have iv6 : IxV H6 (n + 1 + 1 + 1 + 1 + 1 + 1 + 1) D x vl vs xl xs L S := by
    exact ⟨iv.row.aS (old6 x iv.xn), iv.l.aS (fun j q => old6 j (mn j (ml j q)).1), iv.lp.mono (fun j q => q) (fun j q => old6 j (iv.dn j q)), iv.s.aS (fun j q => old6 j (mn j (ms j q)).1), iv.sp.mono (fun j q => q) (fun j q => old6 j (iv.dn j q)), by have := iv.xn; omega, fun j q => by have := iv.dn j q; omega, iv.xd, iv.vlx, iv.vsx⟩
  have lt : ∀ (j : Nat), j < n → ∀ (h1 : Hp), (∀ j, j < n + 1 + 1 + 1 + 1 + 1 + 1 + 1 → j ≠ n + 1 + 1 + 1 → j ≠ n + 1 + 1 + 1 + 1 + 1 + 1 → h1 j = H6 j) → h1 j = H6 j := fun j hj h1 hk => hk j (by omega) (by omega) (by omega)
  refine dL ((f106 (.fn (.yield (n + 1 + 1 + 1 + 1 + 1 + 1)) [] []) (n + 1 + 1 + 1 + 1) (n + 1 + 1 + 1 + 1 + 1) x aO pn hl L S D (P37 H6 n D L aO pn z (L37 TM)) (fun _ _ _ => False) vl vs xl xs H6 (n + 1 + 1 + 1 + 1 + 1 + 1 + 1) iv6 (fun j q => by have := (mn j (ml j q)).1; omega) rL hc ⟨rfl, rfl, rfl⟩ g4 g5 (by omega) (by omega) f6 ?_ ?_ ?_ (fun _ _ _ _ _ _ _ q => q) ?_).xP f6) ?_
  · intro nS k h1 n1 p
    exact ⟨iv6.l.rds.aS (fun j q => lt j (mn j (ml j q)).1 h1 p.kp), iv6.lp.mono (fun j q => q) (fun j q => lt j (iv.dn j q) h1 p.kp), p.fr⟩
  · intro h' nS hn' hf' ho'
    exact ⟨hf', Nat.le_refl _, fun j hj _ _ => ho' j hj, (ho' _ (by omega)).trans g6, ⟨.dP, (ho' _ (by omega)).trans g3, .inl ⟨rfl, ZF _ _ _⟩⟩, fun i hi h1 h2 => by omega⟩
  · intro nS k h1 n1 i b hi hns p
    obtain ⟨c, hc1, hc2⟩ := p.cl
    exact ⟨p.fr.upd (by have := p.ns; omega), p.ns, fun j hj h1' h2' => by rw [aG _ _ (by omega)]; exact p.kp j hj h1' h2', by rw [aG _ _ (by omega)]; exact p.lp, ⟨c, by rw [aG _ _ (by omega)]; exact hc1, hc2⟩, p.sm⟩
  · intro nS k hk id sv h1 n1 hnS hpk p a d1 d2 hsm
    have hidn := iv.dn id d1
    refine nF p.lp rfl rfl ?_
    simp only [LD, List.getD_cons_zero, mD, List.zip_cons_cons, List.zip_nil_left, L37, TM, cZ, Try.f37, Option.getD_some, fgr, gE]
    refine ⟨_, p.lp, rfl, ?_⟩
    obtain ⟨h2, hh2⟩ : ∃ h2, h2 = upd h1 (n + 1 + 1 + 1 + 1 + 1 + 1) (some (Blk.loop { L37 TM with state := .busy })) := ⟨_, rfl⟩
    have ho2 : ∀ j, j ≠ n + 1 + 1 + 1 + 1 + 1 + 1 → h2 j = h1 j := fun j hj => by rw [hh2, aG _ _ hj]
    have hlo2 : h2 (n + 1 + 1 + 1 + 1 + 1 + 1) = some (.loop { L37 TM with state := .busy }) := by rw [hh2, aP]
    have hns := p.ns
    have hf2 : bG h2 n1 := by rw [hh2]; exact p.fr.upd (by omega)
    show Run env 37 _ _ _ _ _ (upd h1 (n + 1 + 1 + 1 + 1 + 1 + 1) (some (Blk.loop { L37 TM with state := .busy }))) n1
    rw [← hh2]
    clear hh2
    have a2 : At h2 id sv L[k] := a.aS (ho2 id (by omega)) (fun j q => ho2 j (by have := iv.dn j (d2 j q); omega))
    have a6 : At H6 id sv L[k] := a.aS (lt id hidn h1 p.kp).symm (fun j q => (lt j (iv.dn j (d2 j q)) h1 p.kp).symm)
    have rz : Row h2 (n + 1) [.int .i64 z] := g1.aS ((ho2 (n + 1) (by omega)).trans (p.kp (n + 1) (by omega) (by omega) (by omega)))
    obtain ⟨c, hc1, hc2⟩ := p.cl
    simp only [L8, List.getD_cons_zero, cZ, Try.f37, Option.getD_some, bP, fgr, List.nil_append, List.append_nil]
    refine cP ⟨rfl, ?_⟩
    simp only [Nat.reduceAdd, gE]
    rw [bJ (fI a2.row a2.ok)]
    simp only [Nat.reduceAdd, gE]
    rw [bJ (rz.one (off := 0) rfl ti3 rfl)]
    simp only [hkr, Nat.reduceAdd, gE]
    refine eE hf2 (f82 L[k] sv a2.ok z h2 n1 hf2) fun v6 h6 n6 r6 w6 hn6 f6' ⟨e6, o6⟩ => ?_
    subst e6
    have hlo6 : h6 (n + 1 + 1 + 1 + 1 + 1 + 1) = some (.loop { L37 TM with state := .busy }) := (o6 _ (by omega)).trans hlo2
    have hc6 : h6 (n + 1 + 1 + 1) = some (.row (.l [c]) 128) := ((o6 _ (by omega)).trans (ho2 _ (by omega))).trans hc1
    have sm' : ∀ i (hi : i < L.length), pos false L (key aO pn 0) ≤ i → i < k + 1 → same aO pn L[i] = true := fun i hi h1' h2' => by
      by_cases q : i = k
      · subst q; exact hsm
      · exact p.sm i hi h1' (by omega)
    have keep6 : ∀ j, j < n1 → j ≠ n + 1 + 1 + 1 + 1 + 1 + 1 → h6 j = h1 j := fun j hj hne => (o6 j hj).trans (ho2 j hne)
    cases hth : gB L[k] z with
    | false =>
      simp only [fgr, unOp, Nat.reduceAdd, gE]
      refine ⟨(by (try simp (disch := first | assumption | omega) only [dW, gF]); repeat' (first | rfl | exact (Bool.or_eq_true _ _).mpr (.inr rfl) | refine (Bool.and_eq_true _ _).mpr ⟨?_, ?_⟩)), _, hlo6, .inl ⟨.inl rfl, ⟨f6'.upd (by omega), by omega, fun j hj h1' h2' => ?_, aP _ _ _, ⟨c, by rw [aG _ _ (by omega)]; exact hc6, by rw [SN hpk hk, hth]; exact hc2⟩, sm'⟩⟩, fun j hj hjn => ?_, ?_⟩
      · rw [aG _ _ h2', keep6 j (by omega) h2']; exact p.kp j hj h1' h2'
      · rw [aG _ _ (by omega), keep6 j (by omega) (by omega)]
      · rw [aG _ _ (by omega), keep6 _ (by omega) (by omega)]
    | true =>
      simp only [fgr, unOp, Nat.reduceAdd, gE]
      refine ⟨(by (try simp (disch := first | assumption | omega) only [dW, gF]); repeat' (first | rfl | exact (Bool.or_eq_true _ _).mpr (.inr rfl) | refine (Bool.and_eq_true _ _).mpr ⟨?_, ?_⟩)), ?_⟩
      rw [eS (Row.eZ (v := .ptr id 0) hc6 jB rfl (by show 0 + 1 ≤ 1; omega) rfl)]
      simp only [bP, fgr, bX, aE, cel]
      have spl : cH [c] 0 [a9.ptr id 0] = [a9.ptr id 0] := rfl
      refine ⟨_, (aG _ _ (by omega)).trans hlo6, .inl ⟨.inl rfl, ⟨(f6'.upd (by omega)).upd (by omega), by omega, fun j hj h1' h2' => ?_, aP _ _ _, ⟨.ptr id 0, by rw [aG _ _ (by omega), aP]; rfl, .inr ⟨id, sv, L[k], rfl, by rw [SN hpk hk, hth]; rfl, a6, d1, d2⟩⟩, sm'⟩⟩, fun j hj hjn => ?_, ?_⟩
      · rw [aG _ _ h2', aG _ _ h1', keep6 j (by omega) h2']; exact p.kp j hj h1' h2'
      · rw [aG _ _ (by omega), aG _ _ (by omega), keep6 j (by omega) (by omega)]
      · rw [aG _ _ (by omega), aG _ _ (by omega), keep6 _ (by omega) (by omega)]
  · rintro v5 h5 n5 ⟨⟨e5, nS, hnS, hh⟩, hn5, f5⟩
    rcases hh with ⟨k, hk1, p, hk3⟩ | hr
    · refine ⟨_, p.lp, (fun q => by cases q), .normal, rfl, ?_⟩
      obtain ⟨c, hc1, hc2⟩ := p.cl
      have hns := p.ns
      obtain ⟨h7, hh7⟩ : ∃ h7, h7 = upd h5 (n + 1 + 1 + 1 + 1 + 1 + 1) (some (Blk.loop { L37 TM with state := .exhausted })) := ⟨_, rfl⟩
      have ho7 : ∀ j, j ≠ n + 1 + 1 + 1 + 1 + 1 + 1 → h7 j = h5 j := fun j hj => by rw [hh7, aG _ _ hj]
      have f7 : bG h7 n5 := by rw [hh7]; exact f5.upd (by omega)
      show eR env 37 none _ _ _ _ (upd h5 (n + 1 + 1 + 1 + 1 + 1 + 1) (some (Blk.loop { L37 TM with state := .exhausted }))) n5
      rw [← hh7]
      clear hh7
      have kp7 : ∀ j, j < n → h7 j = h j := fun j hj => by rw [ho7 j (by omega), lt j hj h5 p.kp, old6 j hj]
      have hcell : Row h7 (n + 1 + 1 + 1) [c] := ⟨_, (ho7 _ (by omega)).trans hc1⟩
      have res : h7 (n + 1 + 1) = some (Blk.row (bK.l fX.i.zero.cells) 31) := (ho7 _ (by omega)).trans ((p.kp _ (by omega) (by omega) (by omega)).trans g2)
      simp only [gE]
      rw [aI (hcell.one (off := 0) rfl jB rfl)]
      rcases hc2 with ⟨rfl, hn⟩ | ⟨id, sw, w, rfl, hw, a, d1, d2⟩
      · simp only [tyr, fgr, bor, aR, dE, aU, equal, cL, bT, bU, aE5, gE]
        rw [eS (Row.eZ (v := .agg fX.i.zero.cells) res eB rfl (by decide) rfl)]
        have spl : cH fX.i.zero.cells 0 (a9.agg fX.i.zero.cells).cells = fX.i.zero.cells := eL rfl
        rw [spl]
        simp only [fgr, gE]
        refine fL (Row.gT (cs := fX.i.zero.cells) (Row.new _ _ _ _) eB rfl rfl) ?_
        exact aM.2 ⟨fun j hj => by rw [aG _ _ (by omega), kp7 j hj], k, hk1, p.sm, hk3, .inl ⟨hn, rfl⟩⟩
      · simp only [tyr, fgr, bor, aR, dE, aU, equal, cL, bT, bU, gE]
        rw [aI (hcell.one (off := 0) rfl jB rfl)]
        have hwL := RD hw
        have okw := ok w hwL
        have hidn := iv.dn id d1
        have a7 : At h7 id sw w := a.aS ((ho7 id (by omega)).trans (lt id hidn h5 p.kp)) (fun j q => (ho7 j (by have := iv.dn j (d2 j q); omega)).trans (lt j (iv.dn j (d2 j q)) h5 p.kp))
        simp only [gE]
        rw [aI (fI a7.row a7.ok)]
        simp only [hkr, gE]
        refine aJ f7 (f77 w sw a7.ok h7 n5 a7.s (fun j q => by have := iv.dn j (d2 j q); omega) okw.2 f7) fun v8 h8 n8 hn8 f8 ⟨s', e8, b8, i8, o8⟩ => ?_
        subst e8
        simp only [gE]
        have res8 : h8 (n + 1 + 1) = some (Blk.row (bK.l fX.i.zero.cells) 31) := (o8 _ (by omega)).trans res
        rw [eS (Row.eZ (v := .agg (aK w s')) res8 eB (bD a7.ok.h a7.ok.b) (by decide) (cS b8.kind.2.1))]
        have spl : cH fX.i.zero.cells 0 (a9.agg (aK w s')).cells = aK w s' := eL (bD a7.ok.h a7.ok.b)
        rw [spl]
        simp only [fgr, gE]
        refine fL (fI (Row.new _ _ _ _) a7.ok) ?_
        refine aM.2 ⟨fun j hj => by rw [aG _ _ (by omega), o8 j (by omega), kp7 j hj], k, hk1, p.sm, hk3, .inr ⟨w, s', hw, rfl, hwL, b8.aS fun j q => aG _ _ (by have := i8 j q; omega), fun j q => by have := i8 j q; omega⟩⟩
    · exact hr.elim
theorem f89 (v w : a9) (a b : List UInt8) (h : Hp) (n : Nat) (ha : Bytes h v a) (hb : Bytes h w b) : Wp (bM env (aY env) 89 [v, w]) h n fun v' h' n' => v' = .bool (a == b) ∧ h' = h ∧ n' = n := by
  refine aZ ax0 am3 ?_
  simp only [VH, Try.f89, Option.getD_some, List.replicate, fgr, Nat.reduceAdd, Nat.reduceSub, ha.str t29 t9 t5, gE]
  rw [hb.str t29 t9 t5]
  simp only [fgr, bor, strOp, gE]
theorem ag4 (a b : List UInt8) (l1 : a.length = 32) (l2 : b.length = 32) : binOp env .eql 25 (.agg (a.map u8)) (.agg (b.map u8)) = M.pure (.bool (decide (a = b))) := by
  have e := J7 98 a b l1 l2
  show aR env .eql 25 (.agg (a.map u8)) (.agg (b.map u8)) = _
  unfold aR
  simp only
  unfold aU
  rw [e, aB]
theorem UO (o : Bool) (L : List Ver) (v : Ver) : pos o L v ≤ L.length := List.countP_le_length
theorem sY {o : Bool} {L : List Ver} (r : eU o L) (v : Ver) : Pos o L v (pos o L v) := by
  induction L with
  | nil => exact ⟨Nat.le_refl _, fun k hk => absurd hk (Nat.not_lt_zero _), fun k hk => absurd hk (Nat.not_lt_zero _)⟩
  | cons a L ih =>
    have r' : eU o L := (List.pairwise_cons.1 r).2
    have ra := (List.pairwise_cons.1 r).1
    have i := ih r'
    by_cases c : iP o a v < 0
    · have e : pos o (a :: L) v = pos o L v + 1 := by unfold pos; rw [List.countP_cons, if_pos (decide_eq_true c)]
      rw [e]
      refine ⟨by have := i.le; simp; omega, fun k hk h => ?_, fun k hk h => ?_⟩
      · cases k with
        | zero => exact c
        | succ k => exact i.lo k (by simpa using hk) (by omega)
      · cases k with
        | zero => omega
        | succ k => exact i.hi k (by simpa using hk) (by omega)
    · have all : ∀ b ∈ L, ¬ iP o b v < 0 := fun b hb h => c ((AZ o).lt _ _ _ (ra b hb) h)
      have e : pos o (a :: L) v = 0 := by
        unfold pos
        rw [List.countP_eq_zero]
        intro b hb
        rcases List.mem_cons.1 hb with rfl | hb
        · simpa using c
        · simpa using all b hb
      rw [e]
      refine ⟨Nat.zero_le _, fun k hk h => absurd h (Nat.not_lt_zero _), fun k hk h => ?_⟩
      cases k with
      | zero => exact c
      | succ k => exact all _ (List.getElem_mem _)
theorem LK {L : List Ver} {w v : Ver} (r : eU false L) (hw : w ∈ L) (he : gM w v = 0) : pos false (lI L w) v = pos false L w := by
  obtain ⟨hp, hpw⟩ := pK r (sY r w) hw
  have pm := (kT hp).countP_eq (fun u => decide (iP false u w < 0))
  have e : ∀ u : Ver, iP false u v = iP false u w := fun u => (uG.eqr (d := u) he).symm
  show (iV L (pos false L w)).countP (fun u => decide (iP false u v < 0)) = _
  simp only [e]
  rw [List.countP_cons, if_neg (by
    rw [hpw]
    have := uG.refl w
    simp only [decide_eq_true_eq]
    show ¬ gM w w < 0
    omega)] at pm
  exact pm.symm
theorem LH {L : List Ver} {w v : Ver} (r : eU false L) (hw : w ∈ L) (he : gM w v = 0) : rF (lI L w) v = L.set (pos false L w) v := by
  obtain ⟨hp, hpw⟩ := pK r (sY r w) hw
  have ht : (L.take (pos false L w)).length = pos false L w := by rw [List.length_take]; omega
  unfold rF
  rw [LK r hw he]
  unfold lI gR iV
  rw [List.take_left' ht, List.drop_left' ht, List.set_eq_take_append_cons_drop, if_pos hp]
noncomputable def L43 (tm : List a9) : lE := { state := .ready, pending := none, fn := 43, tmps := tm, params := [19], assign := LC, body := L7 }
def j5 (aL : List UInt8) : Ver := ⟨List.replicate 32 0, 0, 0, 0, aL, false, 0, List.replicate 32 0⟩
theorem QR (aL : List UInt8) : (j5 aL).Ok := ⟨rfl, rfl⟩
def z35 : List a9 := List.replicate 32 (.int .u8 0) ++ [.int .u32 0, .int .i64 0, .int .i64 0]
def z34 : List a9 := [.bool false, .int .i64 0] ++ List.replicate 32 (.int .u8 0)
theorem aj2 : fX.i.zero.cells = z35 ++ [.aV] ++ z34 := rfl
theorem OD {sv : a9} {aL : List UInt8} (hs : sv.cells = [sv] ∧ bI sv = true ∧ dV sv = false) : build env 31 [(3, sv)] = M.pure (.agg (aK (j5 aL) sv)) := by
  have e1 : ∀ pl : Nat → Option (Nat × Nat), pl 3 = some (35, 1) → fill pl fX.i.zero.cells [(3, sv)] = some (aK (j5 aL) sv) := fun pl p0 => by
    rw [aj2, iK p0 rfl rfl (by rw [hs.1]; rfl) hs.2.2, hs.1]
    simp only [fill]
    congr 1
  have e2 : build env 31 [(3, sv)] = (dG "build" (fill ([(0, 33), (33, 1), (34, 1), (35, 1), (36, 1), (37, 1), (38, 32)][·]?) fX.i.zero.cells [(3, sv)])).bind fun cs => M.pure (.agg cs) := rfl
  rw [e2, e1 _ rfl]
  rfl
def rT (S : List Ver) (p k : Nat) (z : Int) : List Ver := ((S.take k).drop p).filter fun v => gB v z
theorem K4 (S : List Ver) (p : Nat) (z : Int) : rT S p p z = [] := by
  unfold rT
  rw [List.drop_eq_nil_of_le (by rw [List.length_take]; omega)]; rfl
theorem AS {L : List Ver} {p k : Nat} (hp : p ≤ k) (hk : k < L.length) (z : Int) : rT L p (k + 1) z = if gB L[k] z then rT L p k z ++ [L[k]] else rT L p k z := by
  unfold rT
  rw [List.take_add_one, List.getElem?_eq_getElem hk, List.drop_append_of_le_length (by rw [List.length_take]; omega), List.filter_append]
  by_cases c : gB L[k] z = true
  · rw [if_pos c]; simp [c]
  · rw [if_neg c]; simp [c]
theorem PU (L : List Ver) (p k : Nat) (z : Int) : (rT L p k z).length ≤ L.length := by
  unfold rT
  have h1 := List.length_filter_le (fun v => gB v z) ((L.take k).drop p)
  have h2 : ((L.take k).drop p).length ≤ L.length := by rw [List.length_drop, List.length_take]; omega
  omega
structure P43 (H7 : Hp) (n : Nat) (S : List Ver) (aL : List UInt8) (z : Int) (nS k : Nat) (h1 : Hp) (n1 : Nat) : Prop where
  fr : bG h1 n1
  n7 : n + 1 + 1 + 1 + 1 + 1 + 1 + 1 ≤ nS
  ns : nS ≤ n1
  kp : ∀ j, j < n + 1 + 1 + 1 + 1 + 1 + 1 + 1 → j ≠ n + 1 + 1 → j ≠ n + 1 + 1 + 1 + 1 + 1 + 1 → h1 j = H7 j
  cl : ∃ acc cells, h1 (n + 1 + 1) = some (.row (.l [acc]) 43) ∧ Lst h1 31 70 acc (rT S (pos true S (j5 aL)) k z).length cells ∧ Vs h1 (fun j => nS ≤ j ∧ j < n1 ∧ bB acc ≠ some j) cells (rT S (pos true S (j5 aL)) k z) ∧ ∀ j, bB acc = some j → nS ≤ j
  sm : ∀ i (hi : i < S.length), pos true S (j5 aL) ≤ i → i < k → S[i].aL = aL
theorem f43 (x : Nat) (sv : a9) (aL : List UInt8) (z : Int) (L : List Ver) (D M : Nat → Prop) (h : Hp) (n : Nat) (hs : Ix h n D M x L) (hb : Bytes h sv aL) (hsn : ∀ j, bB sv = some j → j < n) (hc : L.length ≤ 1000000) (hf : bG h n) :
    Wp (bM env (aY env) 43 [.ptr x 0, sv, .int .i64 z]) h n fun v' h' n' => Old h h' n ∧ ∃ S k, eU true S ∧ L.Perm S ∧ pos true S (j5 aL) ≤ k ∧ (∀ i (hi : i < S.length), pos true S (j5 aL) ≤ i → i < k → S[i].aL = aL) ∧ (∀ hk : k < S.length, S[k].aL ≠ aL) ∧ VL h' n n' v' (rT S (pos true S (j5 aL)) k z) := by
  obtain ⟨⟨S, s0, rS, perm⟩, rL, ok⟩ := hs
  obtain ⟨vl, vs, xl, xs, iv, mx, ml, ms, mn⟩ := s0
  refine aZ az5 ao9 ?_
  simp only [W7, Try.f43, Option.getD_some, List.replicate, Nat.reduceAdd, Nat.reduceSub, gE]
  refine dU (v := sv) wQ hb.kind.2.2 hf fun H1 r1 o1 f1 => ?_
  rw [hb.kind.1] at r1
  simp only [gE]
  refine dU (v := .int .i64 z) ti3 rfl f1 fun H2 r2 o2 f2 => ?_
  simp only [tyr, fgr, hkr, cel, alloc, bW, newRow, gE]
  obtain ⟨H3, hH3⟩ : ∃ H3, H3 = upd H2 (n + 1 + 1) (some (Blk.row (bK.l [a9.aV]) 43)) := ⟨_, rfl⟩
  rw [← hH3]
  have f3 : bG H3 (n + 1 + 1 + 1) := by rw [hH3]; exact f2.new
  have o3 : ∀ j, j ≠ n + 1 + 1 → H3 j = H2 j := fun j hj => by rw [hH3, aG _ _ hj]
  have r3 : H3 (n + 1 + 1) = some (Blk.row (bK.l [a9.aV]) 43) := by rw [hH3, aP]
  clear hH3
  have old3 : Old h H3 n := fun j hj => by rw [o3 j (by omega), o2 j (by omega), o1 j (by omega)]
  have r1' : Row H3 n [sv] := (r1.aS (o2 n (by omega))).aS (o3 n (by omega))
  have r2' : Row H3 (n + 1) [.int .i64 z] := r2.aS (o3 (n + 1) (by omega))
  refine dA (f73 x _ true H3 _ (iv.row.aS (old3 x iv.xn)) rfl) ?_
  simp only [bP, fgr, opd, bX, put, nth, aE, Bool.not_true]
  refine cP ⟨rfl, ?_⟩
  simp only [tyr, aQ, Nat.reduceAdd, gE]
  rw [bJ (r1'.one (off := 0) rfl wQ rfl)]
  simp only [cel, alloc, Nat.reduceAdd, OD (aL := aL) hb.kind, gE]
  refine kA (xs := aK (j5 aL) sv) eB f3 fun H4 r4 o4 f4 => ?_
  simp only [hkr, Nat.reduceAdd, gE]
  refine eE f4 (f88 x 3 (n + 1 + 1 + 1) H4 _) fun v3 h3 n3 r3w w3 hn3 f5 ⟨e3, eh3, en3⟩ => ?_
  subst e3; subst en3
  simp only [jG, bP, fgr, bX, put, aE, Nat.reduceAdd]
  refine ⟨(by (try simp (disch := first | assumption | omega) only [dW, gF]); repeat' (first | rfl | exact (Bool.or_eq_true _ _).mpr (.inr rfl) | refine (Bool.and_eq_true _ _).mpr ⟨?_, ?_⟩)), ?_⟩
  have row4 : Row h3 (n + 1 + 1 + 1 + 1) [.ptr x 3] := by rw [eh3]; exact (Row.new _ _ _ _).upd (by omega)
  have row5 : Row h3 (n + 1 + 1 + 1 + 1 + 1) [.ptr (n + 1 + 1 + 1) 0] := by rw [eh3]; exact Row.new _ _ _ _
  have o5 : ∀ j, j < n + 1 + 1 + 1 + 1 → h3 j = H4 j := fun j hj => by rw [eh3, aG _ _ (by omega), aG _ _ (by omega)]
  clear eh3
  refine lS (g := 109) (first := []) (cap := [.ptr (n + 1 + 1 + 1 + 1) 0, .ptr (n + 1 + 1 + 1 + 1 + 1) 0]) rfl rfl ?_
  let TM : List a9 := (.ptr x 0 :: sv :: .int .i64 z :: a9.aA :: .ptr n 0 :: .ptr (n + 1) 0 :: .aV :: .ptr (n + 1 + 1) 0 :: undef :: a9.aA :: .bool false :: a9.aA :: a9.aA :: a9.aA :: a9.aA :: a9.aA :: a9.aA :: a9.aA :: .fn (.func 109) [] [.ptr (n + 1 + 1 + 1 + 1) 0, .ptr (n + 1 + 1 + 1 + 1 + 1) 0] :: undef :: a9.aA :: a9.aA :: a9.aA :: a9.aA :: a9.aA :: a9.aA :: undef :: a9.aA :: a9.aA :: a9.aA :: a9.aA :: undef :: a9.aA :: a9.aA :: a9.aA :: a9.aA :: a9.aA :: a9.aA :: a9.aA :: a9.aA :: [])
  obtain ⟨H7, hH7⟩ : ∃ H7, H7 = upd h3 (n + 1 + 1 + 1 + 1 + 1 + 1) (some (Blk.loop (L43 TM))) := ⟨_, rfl⟩
  show Wp (gX env (aY env) 109 [a9.fn (Fn.yield (n + 1 + 1 + 1 + 1 + 1 + 1)) [] [], a9.ptr (n + 1 + 1 + 1 + 1) 0, a9.ptr (n + 1 + 1 + 1 + 1 + 1) 0]) (upd h3 (n + 1 + 1 + 1 + 1 + 1 + 1) (some (Blk.loop (L43 TM)))) _ _
  rw [SG, ← hH7]
  have f7 : bG H7 (n + 1 + 1 + 1 + 1 + 1 + 1 + 1) := by rw [hH7]; exact f5.new
  have o7 : ∀ j, j ≠ n + 1 + 1 + 1 + 1 + 1 + 1 → H7 j = h3 j := fun j hj => by rw [hH7, aG _ _ hj]
  have g6 : H7 (n + 1 + 1 + 1 + 1 + 1 + 1) = some (.loop (L43 TM)) := by rw [hH7, aP]
  clear hH7
  have old7 : Old h H7 n := fun j hj => by rw [o7 j (by omega), o5 j (by omega), o4 j (by omega), old3 j hj]
  have g0 : Row H7 n [sv] := ((r1'.aS (o4 n (by omega))).aS (o5 n (by omega))).aS (o7 n (by omega))
  have g1 : Row H7 (n + 1) [.int .i64 z] := ((r2'.aS (o4 (n + 1) (by omega))).aS (o5 (n + 1) (by omega))).aS (o7 (n + 1) (by omega))
  have g2 : H7 (n + 1 + 1) = some (Blk.row (bK.l [a9.aV]) 43) := by rw [o7 _ (by omega), o5 _ (by omega), o4 _ (by omega)]; exact r3
  have g3 : Row H7 (n + 1 + 1 + 1) (aK (j5 aL) sv) := by
    refine Row.aS (h := H4) ⟨_, r4⟩ ?_
    rw [o7 _ (by omega), o5 _ (by omega)]
  have lt : ∀ (j : Nat), j < n → ∀ (h1 : Hp), (∀ j, j < n + 1 + 1 + 1 + 1 + 1 + 1 + 1 → j ≠ n + 1 + 1 → j ≠ n + 1 + 1 + 1 + 1 + 1 + 1 → h1 j = H7 j) → h1 j = H7 j := fun j hj h1 hk => hk j (by omega) (by omega) (by omega)
  have hS : S.length = L.length := perm.length_eq.symm
  have kt : AtN H7 (n + 1 + 1 + 1 + 1 + 1 + 1 + 1) (n + 1 + 1 + 1) sv (j5 aL) := ⟨⟨g3, hb.aS (fun j q => old7 j (hsn j q)), QR _⟩, by omega, fun j q => by have := hsn j q; omega⟩
  have sl7 := iv.s.aS (h' := H7) (fun j q => old7 j (mn j (ms j q)).1)
  have sp7 := iv.sp.mono (h' := H7) (D' := D) (fun j q => q) (fun j q => old7 j (iv.dn j q))
  have hro : vK vs := by
    have q := iv.s
    generalize S.length = len at q
    cases q with
    | nil => trivial
    | zero => exact Nat.le_refl _
    | sl => trivial
  refine dL ((f109 true (.fn (.yield (n + 1 + 1 + 1 + 1 + 1 + 1)) [] []) (n + 1 + 1 + 1 + 1) (n + 1 + 1 + 1 + 1 + 1) x 3 _ vs (n + 1 + 1 + 1) sv (j5 aL) S.length xs S D
    (fun k h1 n1 => ∃ nS, P43 H7 n S aL z nS k h1 n1 ∧ h1 (n + 1 + 1 + 1 + 1 + 1 + 1) = some (.loop (L43 TM)))
    (fun h1 n1 => ∃ l nS k, h1 (n + 1 + 1 + 1 + 1 + 1 + 1) = some (.loop l) ∧ l.state = .done ∧ l.pending = some (.exit 0) ∧ pos true S (j5 aL) ≤ k ∧ P43 H7 n S aL z nS k h1 n1 ∧ ∀ hk : k < S.length, S[k].aL ≠ aL)
    H7 (n + 1 + 1 + 1 + 1 + 1 + 1 + 1) (row4.aS (o7 _ (by omega))) (row5.aS (o7 _ (by omega))) (iv.row.aS (old7 x iv.xn)) rfl rfl (by omega) sl7.rds hro (fun j q => by have := (mn j (ms j q)).1; omega) sp7 (fun j q => by have := iv.dn j q; omega) kt (rS.mono _) f7 (by omega) (by have := iv.xn; omega) ?_ ?_ ?_).xP f7) ?_
  · rintro k h1 n1 ⟨nS, p, _⟩
    exact ⟨sl7.rds.aS (fun j q => lt j (mn j (ms j q)).1 h1 p.kp), sp7.mono (fun j q => q) (fun j q => lt j (iv.dn j q) h1 p.kp), p.fr⟩
  · intro p h' n' hpos hn' hf' ho'
    rw [hpos.eq]
    exact ⟨n', ⟨hf', by omega, Nat.le_refl _, fun j hj _ _ => ho' j hj, ⟨.aV, [], (ho' _ (by omega)).trans g2, by rw [K4]; exact .nil, by rw [K4]; exact Vs.nil _ _, fun j q => by cases q⟩, fun i hi h1 h2 => by omega⟩, (ho' _ (by omega)).trans g6⟩
  · rintro p k hk id sv2 h1 n1 hpos hpk ⟨nS, pp, hlo⟩ hx a d1 d2
    have hpk' : pos true S (j5 aL) ≤ k := by rw [← hpos.eq]; exact hpk
    have hidn := iv.dn id d1
    have h77 := pp.n7
    have hns := pp.ns
    refine nF hlo rfl rfl ?_
    simp only [LC, List.getD_cons_zero, mD, List.zip_cons_cons, List.zip_nil_left, L43, TM, cZ, Try.f43, Option.getD_some, fgr, gE]
    refine ⟨_, hlo, rfl, ?_⟩
    obtain ⟨h2, hh2⟩ : ∃ h2, h2 = upd h1 (n + 1 + 1 + 1 + 1 + 1 + 1) (some (Blk.loop { L43 TM with state := .busy })) := ⟨_, rfl⟩
    have ho2 : ∀ j, j ≠ n + 1 + 1 + 1 + 1 + 1 + 1 → h2 j = h1 j := fun j hj => by rw [hh2, aG _ _ hj]
    have hlo2 : h2 (n + 1 + 1 + 1 + 1 + 1 + 1) = some (.loop { L43 TM with state := .busy }) := by rw [hh2, aP]
    have hf2 : bG h2 n1 := by rw [hh2]; exact pp.fr.upd (by omega)
    show Run env 43 _ _ _ _ _ (upd h1 (n + 1 + 1 + 1 + 1 + 1 + 1) (some (Blk.loop { L43 TM with state := .busy }))) n1
    rw [← hh2]
    clear hh2
    have a2 : At h2 id sv2 S[k] := a.aS (ho2 id (by omega)) (fun j q => ho2 j (by have := iv.dn j (d2 j q); omega))
    have to7 : ∀ j, j < n + 1 + 1 → h2 j = H7 j := fun j hj => (ho2 j (by omega)).trans (pp.kp j (by omega) (by omega) (by omega))
    have rs : Row h2 n [sv] := g0.aS (to7 n (by omega))
    have rz : Row h2 (n + 1) [.int .i64 z] := g1.aS (to7 (n + 1) (by omega))
    have bs : Bytes h2 sv aL := hb.aS (fun j q => (to7 j (by have := hsn j q; omega)).trans (old7 j (hsn j q)))
    obtain ⟨acc, cells, q1, q2, q3, q4⟩ := pp.cl
    simp only [L7, List.getD_cons_zero, cZ, Try.f43, Option.getD_some, bP, fgr, List.nil_append, List.append_nil]
    refine cP ⟨rfl, ?_⟩
    simp only [tyr, aQ, Nat.reduceAdd, gE]
    rw [bJ (kN a2.row a2.ok)]
    simp only [Nat.reduceAdd, gE]
    rw [bJ (rs.one (off := 0) rfl wQ rfl)]
    simp only [hkr, Nat.reduceAdd, gE]
    refine eE hf2 (f89 sv2 sv _ aL h2 n1 a2.s bs) fun v6 h6 n6 r6 w6 hn6 f6' ⟨e6, e7, e8⟩ => ?_
    subst e6; subst e7; subst e8
    cases hq : (S[k].aL == aL) with
    | false =>
      simp only [fgr, unOp, Nat.reduceAdd, gE]
      refine ⟨(by (try simp (disch := first | assumption | omega) only [dW, gF]); repeat' (first | rfl | exact (Bool.or_eq_true _ _).mpr (.inr rfl) | refine (Bool.and_eq_true _ _).mpr ⟨?_, ?_⟩)), _, hlo2, .inr ⟨.inl rfl, _, nS, k, aP _ _ _, rfl, rfl, hpk', ⟨hf2.upd (by omega), h77, hns, fun j hj h1' h2' => by rw [aG _ _ h2', ho2 j h2']; exact pp.kp j hj h1' h2', ⟨acc, cells, by rw [aG _ _ (by omega), ho2 _ (by omega)]; exact q1, q2.aS (fun j q => by rw [aG _ _ (by have := q4 j q; omega), ho2 _ (by have := q4 j q; omega)]), q3.mono (fun j q => q) (fun j q => by rw [aG _ _ (by omega), ho2 _ (by omega)]), q4⟩, pp.sm⟩, fun _ => beq_eq_false_iff_ne.1 hq⟩⟩
    | true =>
      simp only [fgr, unOp, Nat.reduceAdd, gE]
      refine ⟨(by (try simp (disch := first | assumption | omega) only [dW, gF]); repeat' (first | rfl | exact (Bool.or_eq_true _ _).mpr (.inr rfl) | refine (Bool.and_eq_true _ _).mpr ⟨?_, ?_⟩)), ?_⟩
      have hsc : S[k].aL = aL := beq_iff_eq.1 hq
      have sm' : ∀ i (hi : i < S.length), pos true S (j5 aL) ≤ i → i < k + 1 → S[i].aL = aL := fun i hi h1' h2' => by
        by_cases e : i = k
        · subst e; exact hsc
        · exact pp.sm i hi h1' (by omega)
      refine cP ⟨rfl, ?_⟩
      simp only [Nat.reduceAdd, gE]
      rw [bJ (fI a2.row a2.ok)]
      simp only [Nat.reduceAdd, gE]
      rw [bJ (rz.one (off := 0) rfl ti3 rfl)]
      simp only [hkr, Nat.reduceAdd, gE]
      refine eE hf2 (f82 S[k] sv2 a2.ok z h6 n6 hf2) fun v7 h8 n8 r7 w7 hn8 f8 ⟨e7, o8⟩ => ?_
      subst e7
      have hlo8 : h8 (n + 1 + 1 + 1 + 1 + 1 + 1) = some (.loop { L43 TM with state := .busy }) := (o8 _ (by omega)).trans hlo2
      have keep8 : ∀ j, j < n6 → j ≠ n + 1 + 1 + 1 + 1 + 1 + 1 → h8 j = h1 j := fun j hj hne => (o8 j hj).trans (ho2 j hne)
      cases hth : gB S[k] z with
      | false =>
        simp only [jG, bP, fgr, opd, bX, put, nth, aE, Nat.reduceAdd]
        refine ⟨(by (try simp (disch := first | assumption | omega) only [dW, gF]); repeat' (first | rfl | exact (Bool.or_eq_true _ _).mpr (.inr rfl) | refine (Bool.and_eq_true _ _).mpr ⟨?_, ?_⟩)), _, hlo8, .inl ⟨.inl rfl, nS, ⟨f8.upd (by omega), h77, by omega, fun j hj h1' h2' => by rw [aG _ _ h2', keep8 j (by omega) h2']; exact pp.kp j hj h1' h2', ⟨acc, cells, by rw [aG _ _ (by omega), keep8 _ (by omega) (by omega)]; exact q1, ?_, ?_, q4⟩, sm'⟩, aP _ _ _⟩⟩
        · rw [AS hpk' hk, hth]
          exact q2.aS (fun j q => by rw [aG _ _ (by have := q4 j q; omega), keep8 _ (q2.eT pp.fr q) (by have := q4 j q; omega)])
        · rw [AS hpk' hk, hth]
          exact q3.mono (fun j q => ⟨q.1, by omega, q.2.2⟩) (fun j q => by rw [aG _ _ (by omega), keep8 _ q.2.1 (by omega)])
      | true =>
        simp only [jG, bP, fgr, opd, bX, put, nth, aE, Nat.reduceAdd]
        refine ⟨(by (try simp (disch := first | assumption | omega) only [dW, gF]); repeat' (first | rfl | exact (Bool.or_eq_true _ _).mpr (.inr rfl) | refine (Bool.and_eq_true _ _).mpr ⟨?_, ?_⟩)), ?_⟩
        have a8 : At h8 id sv2 S[k] := a2.aS (o8 id (by omega)) (fun j q => o8 j (by have := iv.dn j (d2 j q); omega))
        have cell : Row h8 (n + 1 + 1) [acc] := ⟨_, (keep8 _ (by omega) (by omega)).trans q1⟩
        refine cP ⟨rfl, ?_⟩
        simp only [gE]
        rw [bJ (cell.one (off := 0) rfl vM rfl)]
        simp only [Nat.reduceAdd, gE]
        rw [bJ (fI a8.row a8.ok)]
        simp only [hkr, Nat.reduceAdd, gE]
        have fo8 : bG (only (fun j => decide (bB sv2 = some j)) h8) n8 := fun j hj => by
          unfold only
          split
          · exact f8 j hj
          · rfl
        refine uP (fun j => decide (bB sv2 = some j)) f8 (f77 S[k] sv2 a8.ok (only (fun j => decide (bB sv2 = some j)) h8) n8 (a8.s.aS fun j q => gW (decide_eq_true q)) (fun j q => by have := iv.dn j (d2 j q); omega) (ok _ (perm.mem_iff.2 (List.getElem_mem hk))).2 fo8) fun v9 h9 n9 r9 w9 hr9 hn9 f9 ⟨s', e9, b9, i9, o9⟩ hin hout hr hw => ?_
        subst e9
        have old9 : Old h8 h9 n8 := fun j hj => by
          by_cases q : bB sv2 = some j
          · rw [hin j (.inl (decide_eq_true q)), o9 j hj, gW (decide_eq_true q)]
          · exact hout j hj (decide_eq_false q)
        have b9' : Bytes h9 s' S[k].aL := b9.aS (fun j q => hin j (.inr (i9 j q).1))
        simp only [Nat.reduceAdd, DY (bD a8.ok.h a8.ok.b), gE]
        refine kA eB f9 fun H10 r10 o10 f10 => ?_
        simp only [builtin, Nat.reduceAdd, gE]
        have old10 : Old h8 H10 n8 := fun j hj => by rw [o10 j (by omega), old9 j hj]
        have accl : ∀ j, bB acc = some j → j < n6 := fun j q => q2.eT pp.fr q
        have acck : ∀ j, bB acc = some j → H10 j = h1 j := fun j q => by rw [old10 j (by have := accl j q; omega), keep8 j (accl j q) (by have := q4 j q; omega)]
        have tl := PU S (pos true S (j5 aL)) k z
        refine eE f10 (nB (i := fX.i) (e := 31) (Q1 := fun v' h' n' => n9 + 1 ≤ n' ∧ bG h' n' ∧ Lst h' 31 70 v' ((rT S (pos true S (j5 aL)) k z).length + 1) (cells ++ aK S[k] s') ∧ (bB v' = bB acc ∨ bB v' = some (n9 + 1) ∧ n9 + 1 < n') ∧ ∀ j, j < n9 + 1 → bB acc ≠ some j → h' j = H10 j) (q2.aS acck) (mV (cnt := 1) r10 (by rw [bD a8.ok.h a8.ok.b]; rfl)) u43 u43 eB (cS b9.kind.2.1) (by decide) (by show 2 * (_ + 1) * 128 ≤ _; omega) (by omega) f10 (fun v' h' n' a b c d e => ⟨a, b, c, d, e⟩)) fun v11 h11 n11 r11 w11 hn11 f11 ⟨_, _, l11, i11, o11⟩ => ?_
        have o111 : ∀ j, j < n8 → bB acc ≠ some j → j ≠ n + 1 + 1 + 1 + 1 + 1 + 1 → j < n6 → h11 j = h1 j := fun j a b c d => by rw [o11 j (by omega) b, old10 j a, keep8 j d c]
        have c11 : h11 (n + 1 + 1) = some (Blk.row (bK.l [acc]) 43) := (o111 _ (by omega) (fun q => by have := q4 _ q; omega) (by omega) (by omega)).trans q1
        have l11n : ∀ j, j < n9 + 1 → bB acc ≠ some j → bB v11 ≠ some j := fun j hj hn q => by
          rcases i11 with w | ⟨w, _⟩
          · rw [w] at q; exact hn q
          · rw [w] at q; injection q with q; omega
        have nw : n + 1 + 1 ∉ w9 := fun q => by have := iv.dn _ (d2 _ (of_decide_eq_true (hw _ q))); omega
        have nr : n + 1 + 1 ∉ r9 := fun q => by have := iv.dn _ (d2 _ (of_decide_eq_true (hr _ q))); omega
        have v11k := l11.rds.kind
        have v11n : ∀ j, bB v11 = some j → nS ≤ j := fun j q => by
          rcases i11 with w | ⟨w, _⟩
          · rw [w] at q; exact q4 j q
          · rw [w] at q; injection q with q; omega
        simp only [Nat.reduceAdd, gE]
        refine jZ (Row.eZ (v := v11) c11 vM (by rw [v11k.1]; rfl) (by show 0 + 1 ≤ 1; omega) (by rw [v11k.1]; simp [v11k.2.1])) ?_
        rw [v11k.1, show cH [acc] 0 [v11] = [v11] from rfl]
        simp only [jG, bP, fgr, bX, aE, Nat.reduceAdd]
        refine ⟨(by (try simp (disch := first | assumption | omega) only [dW, gF]); repeat' (first | rfl | exact (Bool.or_eq_true _ _).mpr (.inr rfl) | refine (Bool.and_eq_true _ _).mpr ⟨?_, ?_⟩)), _, (aG _ _ (by omega)).trans ((o11 _ (by omega) (fun q => by have := q4 _ q; omega)).trans ((old10 _ (by omega)).trans hlo8)), .inl ⟨.inl rfl, nS, ⟨(f11.upd (by omega)).upd (by omega), h77, by omega, fun j hj h1' h2' => ?_, ⟨v11, cells ++ aK S[k] s', by rw [aG _ _ (by omega), aP], ?_, ?_, v11n⟩, sm'⟩, aP _ _ _⟩⟩
        · rw [aG _ _ h2', aG _ _ h1', o111 j (by omega) (fun q => by have := q4 j q; omega) h2' (by omega)]; exact pp.kp j hj h1' h2'
        · rw [AS hpk' hk, hth, if_pos rfl, List.length_append]
          exact l11.aS (fun j q => by rw [aG _ _ (by have := v11n j q; omega), aG _ _ (by have := v11n j q; omega)])
        · rw [AS hpk' hk, hth, if_pos rfl]
          have ne2 : ∀ j, nS ≤ j → ∀ (H : Hp) b b2, upd (upd H (n + 1 + 1) b) (n + 1 + 1 + 1 + 1 + 1 + 1) b2 j = H j := fun j hj H b b2 => by rw [aG _ _ (by omega), aG _ _ (by omega)]
          refine (q3.mono (fun j q => ⟨q.1, by omega, l11n j (by omega) q.2.2⟩) (fun j q => by rw [ne2 j q.1, o111 j (by omega) q.2.2 (by omega) q.2.1])).vN (b9'.aS fun j q => ?_) a8.ok (fun j q => ⟨by have := i9 j q; omega, by have := i9 j q; omega, l11n j (by have := i9 j q; omega) (fun w => by have := accl j w; have := i9 j q; omega)⟩)
          rw [ne2 j (by have := i9 j q; omega), o11 j (by have := i9 j q; omega) (fun w => by have := accl j w; have := i9 j q; omega), o10 j (by have := i9 j q; omega)]
  · rintro v5 h5 n5 ⟨⟨e5, hh⟩, hn5, f5'⟩
    have fin : ∀ (lo : lE) (nS k : Nat), pos true S (j5 aL) ≤ k → P43 H7 n S aL z nS k h5 n5 → (∀ hk : k < S.length, S[k].aL ≠ aL) →
        ∃ acc, Row (upd h5 (n + 1 + 1 + 1 + 1 + 1 + 1) (some (.loop lo))) (n + 1 + 1) [acc] ∧ Old h (upd h5 (n + 1 + 1 + 1 + 1 + 1 + 1) (some (.loop lo))) n ∧ ∃ S k, eU true S ∧ L.Perm S ∧ pos true S (j5 aL) ≤ k ∧ (∀ i (hi : i < S.length), pos true S (j5 aL) ≤ i → i < k → S[i].aL = aL) ∧ (∀ hk : k < S.length, S[k].aL ≠ aL) ∧ VL (upd h5 (n + 1 + 1 + 1 + 1 + 1 + 1) (some (.loop lo))) n n5 acc (rT S (pos true S (j5 aL)) k z) := by
      intro lo nS k hk1 p hk3
      obtain ⟨acc, cells, c1, c2, c3, c4⟩ := p.cl
      have h7 := p.n7
      refine ⟨acc, ⟨_, (aG _ _ (by omega)).trans c1⟩, fun j hj => ?_, S, k, rS, perm, hk1, p.sm, hk3, cells, c2.aS (fun j q => aG _ _ (by have := c4 j q; omega)), c3.mono (fun j q => ⟨by omega, q.2.1, q.2.2⟩) (fun j q => aG _ _ (by omega)), fun j q => ⟨by have := c4 j q; omega, c2.eT p.fr q⟩⟩
      rw [aG _ _ (by omega), lt j hj h5 p.kp, old7 j hj]
    rcases hh with ⟨nS, p, hlo⟩ | ⟨l, nS, k, hlo, hst, hpe, hk1, p, hk3⟩
    · refine ⟨_, hlo, (fun q => by cases q), .normal, rfl, ?_⟩
      obtain ⟨acc, hrow, res⟩ := fin { L43 TM with state := .exhausted } nS S.length (UO _ _ _) p (fun hk => absurd hk (Nat.lt_irrefl _))
      simp only [gE]
      rw [aI (hrow.one (off := 0) rfl vM rfl)]
      simp only [fgr, gE]
      exact res
    · refine ⟨_, hlo, (fun q => by rw [hst] at q; cases q), .exit 0, by rw [hpe], ?_⟩
      obtain ⟨acc, hrow, res⟩ := fin { l with state := .exhausted } nS k hk1 p hk3
      simp only [gE]
      rw [aI (hrow.one (off := 0) rfl vM rfl)]
      simp only [fgr, gE]
      exact res
theorem wW {o : Bool} : ∀ {A B : List Ver}, eU o A → eU o B → A.Perm B → A = B
  | [], B, _, _, h => (List.nil_perm.1 h).symm
  | a :: A, [], _, _, h => absurd (List.perm_nil.1 h) (by simp)
  | a :: A, b :: B, ra, rb, h => by
    have ha := List.pairwise_cons.1 ra
    have hb := List.pairwise_cons.1 rb
    have e : a = b := by
      by_cases q : a = b
      · exact q
      · have h1 : a ∈ B := (List.mem_cons.1 (h.mem_iff.1 List.mem_cons_self)).resolve_left q
        have h2 : b ∈ A := (List.mem_cons.1 (h.mem_iff.2 List.mem_cons_self)).resolve_left (fun w => q w.symm)
        have c1 := ha.1 b h2
        have c2 := hb.1 a h1
        have := (AZ o).sM a b
        omega
    subst e
    rw [wW ha.2 hb.2 ((List.perm_cons a).1 h)]
def RM (a b : Ver) : Int := DS a.aO a.pn b.aO b.pn
theorem al4 : p9 RM := (qP.on Ver.aO).or (tA.on Ver.pn)
theorem sT {aO : List UInt8} {pn : Int} {v : Ver} : same aO pn v = true ↔ DS v.aO v.pn aO pn = 0 := by
  unfold same DS orI
  constructor
  · intro h
    simp only [Bool.and_eq_true, decide_eq_true_eq, beq_iff_eq] at h
    rw [h.1, h.2, if_pos (oS _)]
    exact qW.2 rfl
  · intro h
    split at h
    · rename_i q
      rw [AJ _ _ q, qW.1 h]
      simp
    · contradiction
def atV (L : List Ver) (aO : List UInt8) (pn z : Int) : Option Ver := (L.filter fun v => same aO pn v && gB v z).getLast?
def zP (v : Ver) : Prop := vT v = false ∧ 0 ≤ v.pn
theorem zP.made {v : Ver} (h : zP v) : 0 ≤ v.made := by
  have := h.1
  unfold vT at this
  simp only [Bool.or_eq_false_iff, decide_eq_false_iff_not] at this
  omega
theorem GH {a b : Int} (h : orI a b < 0) : a ≤ 0 := by
  unfold orI at h
  split at h <;> omega
theorem LP {a b : Int} (h : ¬ orI a b < 0) (hn : a ≠ 0) : 0 < a := by
  unfold orI at h
  rw [if_neg hn] at h
  omega
theorem YU {o : Ver → Ver → Int} (q : p9 o) {a b t : Ver} (h1 : 0 < o a t) (h2 : o a b ≤ 0) : 0 < o b t := by
  have e1 := q.sM a t
  have e2 := q.sM b t
  rcases Int.lt_or_eq_of_le h2 with w | w
  · have := q.lt t a b (by omega) w; omega
  · have := q.eqr (d := t) w; omega
theorem y7 {L : List Ver} {p k : Nat} (hpk : p ≤ k) (P th : Ver → Bool) (h1 : ∀ i (hi : i < L.length), i < p → P L[i] = false) (h2 : ∀ i (hi : i < L.length), p ≤ i → i < k → P L[i] = true) (h3 : ∀ i (hi : i < L.length), k ≤ i → P L[i] = false) :
    ((L.take k).drop p).filter th = L.filter fun v => P v && th v := by
  have e : L = L.take p ++ ((L.take k).drop p ++ L.drop k) := by
    rw [← List.append_assoc]
    have : L.take p = (L.take k).take p := by rw [List.take_take, Nat.min_eq_left hpk]
    rw [this, List.take_append_drop, List.take_append_drop]
  conv => rhs; rw [e]
  rw [List.filter_append, List.filter_append]
  have f1 : (L.take p).filter (fun v => P v && th v) = [] := by
    rw [List.filter_eq_nil_iff]
    intro a ha
    obtain ⟨i, hi, rfl⟩ := List.mem_iff_getElem.1 ha
    rw [List.length_take] at hi
    rw [List.getElem_take, h1 i (by omega) (by omega)]
    simp
  have f3 : (L.drop k).filter (fun v => P v && th v) = [] := by
    rw [List.filter_eq_nil_iff]
    intro a ha
    obtain ⟨i, hi, rfl⟩ := List.mem_iff_getElem.1 ha
    rw [List.length_drop] at hi
    rw [List.getElem_drop, h3 (k + i) (by omega) (by omega)]
    simp
  rw [f1, f3, List.append_nil, List.nil_append]
  refine List.filter_congr fun a ha => ?_
  obtain ⟨i, hi, rfl⟩ := List.mem_iff_getElem.1 ha
  rw [List.length_drop, List.length_take] at hi
  have q := h2 (p + i) (by omega) (by omega) (by omega)
  rw [List.getElem_drop, List.getElem_take, q, Bool.true_and]
theorem PB {L : List Ver} {aO : List UInt8} {pn : Int} {k : Nat} (r : eU false L) (g : ∀ v ∈ L, zP v) (hk : pos false L (key aO pn 0) ≤ k)
    (sm : ∀ i (hi : i < L.length), pos false L (key aO pn 0) ≤ i → i < k → same aO pn L[i] = true) (ne : ∀ hk : k < L.length, same aO pn L[k] = false) (th : Ver → Bool) :
    ((L.take k).drop (pos false L (key aO pn 0))).filter th = L.filter fun v => same aO pn v && th v := by
  have P := sY r (key aO pn 0)
  have nn : ∀ i (hi : i < L.length), pos false L (key aO pn 0) ≤ i → same aO pn L[i] = false → 0 < RM L[i] (key aO pn 0) := fun i hi h1 h2 =>
    LP (P.hi i hi h1) fun q => by have w : same aO pn L[i] = true := sT.2 q; rw [w] at h2; cases h2
  refine y7 hk _ _ (fun i hi h => ?_) sm (fun i hi h => ?_)
  · cases hs : same aO pn L[i] with
    | false => rfl
    | true =>
      have h0 := P.lo i hi h
      have h1 : DS L[i].aO L[i].pn aO pn = 0 := sT.1 hs
      have h2 : gM L[i] (key aO pn 0) = jP L[i].made 0 := by
        show orI (DS L[i].aO L[i].pn aO pn) _ = _
        rw [h1]; rfl
      have h3 := (g _ (List.getElem_mem hi)).made
      have h4 : gM L[i] (key aO pn 0) < 0 := h0
      rw [h2, tU] at h4
      omega
  · have hkl : k < L.length := by omega
    have h1 := nn k hkl hk (ne hkl)
    have h2 : 0 < RM L[i] (key aO pn 0) := by
      by_cases q : i = k
      · subst q; exact h1
      · exact YU al4 h1 (GH (r.at_ hkl hi (by omega)))
    cases hs : same aO pn L[i] with
    | false => rfl
    | true =>
      have : RM L[i] (key aO pn 0) = 0 := sT.1 hs
      omega
theorem ai5 {L : List Ver} {aO : List UInt8} {pn z : Int} {k : Nat} (r : eU false L) (g : ∀ v ∈ L, zP v) (hk : pos false L (key aO pn 0) ≤ k)
    (sm : ∀ i (hi : i < L.length), pos false L (key aO pn 0) ≤ i → i < k → same aO pn L[i] = true) (ne : ∀ hk : k < L.length, same aO pn L[k] = false) :
    fnd L (pos false L (key aO pn 0)) k z = atV L aO pn z := by
  unfold fnd atV
  rw [PB r g hk sm ne]
theorem DT : ∀ (l : List UInt8), ¬ Lib.compareBytes l (List.replicate l.length 0) < 0
  | [] => by decide
  | a :: l => by
    rw [List.length_cons, List.replicate_succ]
    unfold Lib.compareBytes
    have h1 : ¬ a < 0 := by simp [UInt8.lt_iff_toNat_lt]
    rw [if_neg h1]
    split
    · omega
    · exact DT l
theorem YX {v : Ver} {aL : List UInt8} (o : v.Ok) (g : zP v) (hs : v.aL = aL) : ¬ FH v (j5 aL) < 0 := by
  have e1 : FH v (j5 aL) = gM v (j5 aL) := by
    show orI (Lib.compareBytes v.aL aL) _ = _
    rw [hs, oS]; rfl
  rw [e1]
  have e2 : gM v (j5 aL) = orI (orI (Lib.compareBytes v.aO (List.replicate 32 0)) (jP v.pn 0)) (jP v.made 0) := rfl
  rw [e2]
  have z := DT v.aO
  rw [o.h] at z
  have m := g.made
  have p := g.2
  have n1 : ¬ jP v.pn 0 < 0 := by rw [tU]; omega
  have n2 : ¬ jP v.made 0 < 0 := by rw [tU]; omega
  unfold orI
  split
  · split
    · exact n2
    · exact n1
  · exact z
def ofV (L : List Ver) (aL : List UInt8) (z : Int) : List Ver := L.filter fun v => (v.aL == aL) && gB v z
theorem of_eq {L S : List Ver} {aL : List UInt8} {z : Int} {k : Nat} (rL : eU false L) (rS : eU true S) (perm : L.Perm S) (ok : ∀ v ∈ L, v.Ok) (g : ∀ v ∈ L, zP v) (hk : pos true S (j5 aL) ≤ k)
    (sm : ∀ i (hi : i < S.length), pos true S (j5 aL) ≤ i → i < k → S[i].aL = aL) (ne : ∀ hk : k < S.length, S[k].aL ≠ aL) :
    rT S (pos true S (j5 aL)) k z = ofV L aL z := by
  have P := sY rS (j5 aL)
  have QA : p9 (fun a b : Ver => Lib.compareBytes a.aL b.aL) := qP.on Ver.aL
  have e1 : rT S (pos true S (j5 aL)) k z = S.filter fun v => (v.aL == aL) && gB v z := by
    refine y7 hk (fun v => v.aL == aL) _ (fun i hi h => ?_) (fun i hi h1 h2 => beq_iff_eq.2 (sm i hi h1 h2)) (fun i hi h => ?_)
    · cases hs : (S[i].aL == aL) with
      | false => rfl
      | true =>
        have hm := perm.mem_iff.2 (List.getElem_mem hi)
        exact absurd (P.lo i hi h) (YX (ok _ hm) (g _ hm) (beq_iff_eq.1 hs))
    · have hkl : k < S.length := by omega
      have h1 : 0 < Lib.compareBytes S[k].aL (j5 aL).aL := LP (P.hi k hkl hk) fun q => ne hkl (AJ _ _ q)
      have h2 : 0 < Lib.compareBytes S[i].aL (j5 aL).aL := by
        by_cases q : i = k
        · subst q; exact h1
        · exact YU (o := fun a b : Ver => Lib.compareBytes a.aL b.aL) (t := j5 aL) QA h1 (GH (rS.at_ hkl hi (by omega)))
      rw [beq_eq_false_iff_ne]
      intro hs
      rw [hs] at h2
      have : Lib.compareBytes aL (j5 aL).aL = 0 := oS aL
      omega
  rw [e1]
  refine wW (o := false) ?_ (rL.sublist List.filter_sublist) (perm.symm.filter _)
  refine (List.Pairwise.filter _ rS).imp_of_mem fun {a b} ha hb hab => ?_
  have s1 := (List.mem_filter.1 ha).2
  have s2 := (List.mem_filter.1 hb).2
  simp only [Bool.and_eq_true, beq_iff_eq] at s1 s2
  have : orI (Lib.compareBytes a.aL b.aL) (gM a b) < 0 := hab
  rw [s1.1, s2.1, oS] at this
  exact this
structure Ixk (K : Nat → Prop) (h : Hp) (n x : Nat) (L : List Ver) : Prop where
  ix : ∃ D M, Ix h n D M x L ∧ ∀ j, K j → j < n ∧ ¬ M j ∧ ¬ D j
  g : ∀ v ∈ L, zP v
theorem Ixk.rL {K : Nat → Prop} {h : Hp} {n x : Nat} {L : List Ver} (s : Ixk K h n x L) : eU false L := by
  obtain ⟨⟨D, M, i, _⟩, _⟩ := s
  exact i.r
theorem Ixk.k {K : Nat → Prop} {h : Hp} {n x : Nat} {L : List Ver} (s : Ixk K h n x L) {j : Nat} (hj : K j) : j < n := by
  obtain ⟨⟨D, M, i, q⟩, _⟩ := s
  exact (q j hj).1
theorem Ixk.sub {K K' : Nat → Prop} {h : Hp} {n x : Nat} {L : List Ver} (s : Ixk K h n x L) (hk : ∀ j, K' j → K j) : Ixk K' h n x L := by
  obtain ⟨⟨D, M, i, q⟩, g⟩ := s
  exact ⟨⟨D, M, i, fun j hj => q j (hk j hj)⟩, g⟩
theorem Ixk.tK {K : Nat → Prop} {h h' : Hp} {n n' x : Nat} {L : List Ver} (s : Ixk K h n x L) (hn : n ≤ n') (ho : Old h h' n) : Ixk (fun j => K j ∨ (n ≤ j ∧ j < n')) h' n' x L := by
  obtain ⟨⟨D, M, i, q⟩, g⟩ := s
  refine ⟨⟨D, M, i.old hn ho, fun j hj => ?_⟩, g⟩
  rcases hj with hj | hj
  · exact ⟨by have := (q j hj).1; omega, (q j hj).2⟩
  · obtain ⟨⟨S, ⟨vl, vs, xl, xs, iv, mx, ml, ms, mn⟩, _⟩, _⟩ := i
    exact ⟨hj.2, fun w => by have := (mn j w).1; omega, fun w => by have := iv.dn j w; omega⟩
theorem Ixk.old {K : Nat → Prop} {h h' : Hp} {n n' x : Nat} {L : List Ver} (s : Ixk K h n x L) (hn : n ≤ n') (ho : Old h h' n) : Ixk K h' n' x L := (s.tK hn ho).sub fun j q => .inl q
theorem Ix.xlt {h : Hp} {n x : Nat} {D M : Nat → Prop} {L : List Ver} (i : Ix h n D M x L) : x < n := by
  obtain ⟨⟨S, ⟨vl, vs, xl, xs, iv, _⟩, _⟩, _⟩ := i
  exact iv.xn
theorem Chg.k {K : Nat → Prop} {h h' : Hp} {n n' : Nat} {D M D' M' : Nat → Prop} (c : Chg h n D M h' n' D' M') (q : ∀ j, K j → j < n ∧ ¬ M j ∧ ¬ D j) : (∀ j, K j → h' j = h j) ∧ ∀ j, K j → j < n' ∧ ¬ M' j ∧ ¬ D' j := by
  refine ⟨fun j hj => c.old j (q j hj).1 (q j hj).2.1, fun j hj => ⟨by have := (q j hj).1; have := c.nx; omega, fun w => ?_, fun w => ?_⟩⟩
  · have := q j hj
    rcases c.m' j w with w | w
    · exact this.2.1 w
    · omega
  · have := q j hj
    rcases c.d' j w with w | w
    · exact this.2.2 w
    · omega
theorem LI {L : List Ver} {v w : Ver} : w ∈ rF L v ↔ w = v ∨ w ∈ L := CV
theorem LJ (L : List Ver) (v : Ver) : (rF L v).length = L.length + 1 := (uL _ _ _).length_eq.trans rfl
theorem JC {L : List Ver} {v w : Ver} (h : w ∈ lI L v) : w ∈ L := BN h
theorem AI {w : Ver} {aO : List UInt8} {pn made : Int} (h : gM w (key aO pn made) = 0) : w.aO = aO ∧ w.pn = pn ∧ w.made = made := by
  have e : gM w (key aO pn made) = orI (DS w.aO w.pn aO pn) (jP w.made made) := rfl
  rw [e] at h
  unfold orI at h
  split at h
  · rename_i q
    have s := sT.2 q
    unfold same at s
    simp only [Bool.and_eq_true, decide_eq_true_eq, beq_iff_eq] at s
    exact ⟨s.1, s.2, qW.1 h⟩
  · contradiction
theorem BF (w : Ver) : gM w (key w.aO w.pn w.made) = 0 := by
  have e : gM w (key w.aO w.pn w.made) = gM w w := rfl
  rw [e]; exact uG.refl w
def zA (L : List Ver) (w v : Ver) : List Ver := L.set (pos false L w) v
theorem HC {L : List Ver} {w : Ver} (r : eU false L) (hw : w ∈ L) (s : Int) (b : List UInt8) : rF (lI L w) (iU w s b) = zA L w (iU w s b) := LH r hw (uG.refl w)
theorem wS {L : List Ver} {w v u : Ver} (h : u ∈ zA L w v) : u = v ∨ u ∈ L := (List.mem_or_eq_of_mem_set h).symm
theorem CG (L : List Ver) (w v : Ver) : (zA L w v).length = L.length := List.length_set
theorem AG {w : Ver} (g : zP w) {s : Int} {b : List UInt8} (h : s = 0 ∨ (1 ≤ s ∧ w.made ≤ s)) : zP (iU w s b) := by
  have m := g.made
  refine ⟨?_, g.2⟩
  unfold vT iU
  simp only [Bool.or_eq_false_iff, decide_eq_false_iff_not, Bool.and_eq_false_iff]
  omega
theorem af3 {K : Nat → Prop} {x : Nat} {L : List Ver} {h : Hp} {n : Nat} (hs : Ixk K h n x L) (hc : L.length ≤ 900000) (hf : bG h n) :
    Wp (bM env (aY env) 32 [.ptr x 0]) h n fun v' h' n' => VL h' n n' v' L ∧ Old h h' n := by
  obtain ⟨⟨D, M, i, q⟩, g⟩ := hs
  exact f32 x L D M h n i (by omega) hf
theorem aC0 {K : Nat → Prop} {x : Nat} (z : Int) {L : List Ver} {h : Hp} {n : Nat} (hs : Ixk K h n x L) (hc : L.length ≤ 900000) (hf : bG h n) :
    Wp (bM env (aY env) 39 [.ptr x 0, .int .i64 z]) h n fun v' h' n' => VL h' n n' v' (L.filter fun v => gB v z) ∧ Old h h' n := by
  obtain ⟨⟨D, M, i, q⟩, g⟩ := hs
  exact f39 x z L D M h n i (by omega) hf
def noV : Ver := ⟨List.replicate 32 0, 0, 0, 0, [], false, 0, List.replicate 32 0⟩
theorem MA : noV.Ok := ⟨rfl, rfl⟩
theorem aj1 : fX.i.zero.cells = aK noV .aV := rfl
theorem X2 {K : Nat → Prop} {x : Nat} (aO : List UInt8) (pn z : Int) (hl : aO.length = 32) {L : List Ver} {h : Hp} {n : Nat} (hs : Ixk K h n x L) (hc : L.length ≤ 900000) (hf : bG h n) :
    Wp (bM env (aY env) 37 [.ptr x 0, .agg (aX aO pn), .int .i64 z]) h n fun v' h' n' => Old h h' n ∧ ∃ s', v' = .tup [.agg (aK ((atV L aO pn z).getD noV) s'), .bool (atV L aO pn z).isSome] ∧ ((atV L aO pn z).getD noV).Ok ∧ Bytes h' s' ((atV L aO pn z).getD noV).aL ∧ ∀ j, bB s' = some j → n ≤ j ∧ j < n' := by
  have rL := hs.rL
  obtain ⟨⟨D, M, i, q⟩, g⟩ := hs
  have ok := i.ok
  refine dL (f37 x aO pn z hl L D M h n i (by omega) hf) fun v' h' n' ⟨o, k, hk, sm, ne, hh⟩ => ⟨o, ?_⟩
  rw [ai5 rL g hk sm ne] at hh
  rcases hh with ⟨e, hv⟩ | ⟨w, s', e, hv, hw, b, hj⟩
  · exact ⟨.aV, by rw [hv, e, aj1]; rfl, by rw [e]; exact MA, by rw [e]; exact .aV, fun j q => by cases q⟩
  · exact ⟨s', by rw [hv, e]; rfl, by rw [e]; exact (ok w hw).1, by rw [e]; exact b, hj⟩
theorem aB9 {K : Nat → Prop} {x : Nat} (sv : a9) (aL : List UInt8) (z : Int) {L : List Ver} {h : Hp} {n : Nat} (hs : Ixk K h n x L) (hb : Bytes h sv aL) (hsn : ∀ j, bB sv = some j → j < n) (hc : L.length ≤ 900000) (hf : bG h n) :
    Wp (bM env (aY env) 43 [.ptr x 0, sv, .int .i64 z]) h n fun v' h' n' => VL h' n n' v' (ofV L aL z) ∧ Old h h' n := by
  have rL := hs.rL
  obtain ⟨⟨D, M, i, q⟩, g⟩ := hs
  have ok := i.ok
  refine dL (f43 x sv aL z L D M h n i hb hsn (by omega) hf) fun v' h' n' ⟨o, S, k, rS, perm, hk, sm, ne, v⟩ => ⟨?_, o⟩
  rwa [of_eq rL rS perm (fun v hv => (ok v hv).1) g hk sm ne] at v
def z0 : List UInt8 := List.replicate 32 0
def b9 : List UInt8 := 9 :: List.replicate 31 0
theorem k5 : Try.prog.cellsOf 5 = 1 := by kernel_rfl
theorem k2 : Try.prog.cellsOf 2 = 1 := by kernel_rfl
theorem k3 : Try.prog.cellsOf 3 = 1 := by kernel_rfl
theorem k4 : Try.prog.cellsOf 4 = 1 := by kernel_rfl
structure OpI where
  kind : Int
  v : Ver
  at_ : Int
theorem GG {xs ys : List a9} {a b i : Nat} (h : (xs.drop a).take b = ys) (hi : i < b) : xs[a + i]? = ys[i]? := by
  rw [← h, List.getElem?_take, if_pos hi, List.getElem?_drop]
section
variable {h : Hp} {n id : Nat} {o : OpI} {sv : a9}
end
structure PG (L : List Ver) (i : Nat) : Prop where
  len : L.length ≤ i
  s : ∀ v ∈ L, v.aL.length ≤ 200
theorem PG.set {L : List Ver} {i : Nat} {w v : Ver} (s : PG L i) (hw : w ∈ L) (hv : v.aL = w.aL) : PG (zA L w v) (i + 1) :=
  ⟨by rw [CG]; have := s.len; omega, fun u hu => by
    rcases wS hu with rfl | hu
    · rw [hv]; exact s.s w hw
    · exact s.s u hu⟩
theorem VL.aS {h h' : Hp} {a b : Nat} {v : a9} {vs : List Ver} (l : VL h a b v vs) (hk : ∀ j, a ≤ j → j < b → h' j = h j) : VL h' a b v vs := by
  obtain ⟨cells, c1, c2, c3⟩ := l
  exact ⟨cells, c1.aS fun j q => hk j (c3 j q).1 (c3 j q).2, c2.mono (fun j q => q) (fun j q => hk j q.1 q.2.1), c3⟩
theorem VL.old {h h' : Hp} {a b n : Nat} {v : a9} {vs : List Ver} (l : VL h a b v vs) (hn : b ≤ n) (hk : Old h h' n) : VL h' a b v vs := l.aS fun j _ q => hk j (by omega)
structure VAt (h : Hp) (a b : Nat) (v : a9) (k : Nat) (w : Ver) (sw : a9) : Prop where
  ok : w.Ok
  all : ∀ n, Rd (load env 31 (dB k v)) h n (rid v) (.agg (aK w sw))
  pt : ∀ n, Rd (load env 28 (dB k v)) h n (rid v) (.agg (aX w.aO w.pn))
  made : ∀ n, Rd (load env 3 (dB (k + 33) v)) h n (rid v) (.int .i64 w.made)
  cV : ∀ n, Rd (load env 3 (dB (k + 37) v)) h n (rid v) (.int .i64 w.cV)
  aL : ∀ n, Rd (load env 29 (dB (k + 35) v)) h n (rid v) sw
  mv : ∀ k m, aQ m (dB k v) = M.pure (dB (k + m) v)
  s : Bytes h sw w.aL
  sn : ∀ j, bB sw = some j → a ≤ j ∧ j < b
theorem VL.at_ {h : Hp} {a b : Nat} {v : a9} {vs : List Ver} (l : VL h a b v vs) {i : Nat} (hi : i < vs.length) : ∃ sw, VAt h a b v (i * 70) vs[i] sw := by
  obtain ⟨cells, c1, c2, c3⟩ := l
  obtain ⟨sw, e, bs, o, d⟩ := c2.at_ i hi
  have hr := c1.rds
  have hl : i * 70 + 70 ≤ cells.length := by rw [c2.len]; omega
  have one : ∀ k x, k < 70 → (aK vs[i] sw)[k]? = some x → cells[i * 70 + k]? = some x := fun k x hk hx => by rw [GG e hk, hx]
  refine ⟨sw, o, fun n => ?_, fun n => ?_, fun n => hr.load ti3 rfl (one 33 _ (by omega) (lX o.h 0)), fun n => hr.load ti3 rfl (one 37 _ (by omega) (lX o.h 4)), fun n => hr.load wQ rfl (one 35 _ (by omega) (lX o.h 2)), fun k m => qS hr (by omega) k m, bs, fun j q => ⟨(d j q).1, (d j q).2.1⟩⟩
  · have := hr.agg (E := env) (n := n) (k := i * 70) eB rfl (by decide) hl
    have e' : (cells.drop (i * 70)).take 70 = aK vs[i] sw := e
    exact e' ▸ this
  · have := hr.agg (E := env) (n := n) (k := i * 70) j7 rfl (by decide) (by show i * 70 + 33 ≤ _; omega)
    have e' : (cells.drop (i * 70)).take 33 = aX vs[i].aO vs[i].pn := by
      rw [← wO (sv := sw) o.h, ← e, List.take_take]; rfl
    exact e' ▸ this
theorem VL.len {h : Hp} {a b : Nat} {v : a9} {vs : List Ver} (l : VL h a b v vs) {ts : List TypeId} : dD env (43 :: ts) v = M.pure (.int .i64 (vs.length : Nat)) := by
  obtain ⟨cells, c1, c2, c3⟩ := l
  exact c1.rds.dD u43
theorem VL.idx {h : Hp} {a b : Nat} {v : a9} {vs : List Ver} (l : VL h a b v vs) {i : Nat} (hi : i < vs.length) {h' : Hp} {n' : Nat} : Rd (indexAddr env 43 v (.int .i64 ((i : Nat) : Int))) h' n' [] (dB (i * 70) v) := by
  obtain ⟨cells, c1, c2, c3⟩ := l
  exact c1.rds.idx u43 aj0 rfl hi
def b1 : List UInt8 := 1 :: List.replicate 31 0
theorem kL {α : Type} {l : List α} {i : Nat} (h : i < l.length) : l.take (i + 1) = l.take i ++ [l[i]] := by
  rw [List.take_add_one, List.getElem?_eq_getElem h]; rfl
theorem t128 : ti env 128 = M.pure ⟨.pointer 31, 1, 8, .dP⟩ := jB
theorem JO {h : Hp} {n b cnt : Nat} {v : a9} {xs : List a9} (hb : h b = some (.row (.l []) 128)) (hv : Rds h 1 v cnt xs) (h1 : xs.all bI = true) (hc : cnt ≤ 1000000) (hf : bG h n) :
    Wp (gH env [95, 95] (.sl b 0 0 (some 0) 1) v) h n fun v' h' n' => (cnt = 0 ∧ v' = .sl b 0 0 (some 0) 1 ∧ h' = h ∧ n' = n) ∨ (0 < cnt ∧ v' = .sl n 0 cnt none 1 ∧ h' = upd h n (some (.row (.l xs) 128)) ∧ n' = n + 1) := by
  simp only [gH, u95, aB, eJ, append, t128, hv.len, hU]
  by_cases hk : cnt = 0
  · subst hk
    rw [Nat.beq_refl]
    exact aM.2 (.inl ⟨rfl, rfl, rfl, rfl⟩)
  have hk0 : cnt.beq 0 = false := kU hk
  simp only [hk0]
  refine fL hv.cells ?_
  have r1 : ((2 * cnt * 8).ble room && cnt.ble room) = true := by
    unfold room
    rw [dS (by omega), dS (by omega)]; rfl
  have e0 : (0 + cnt).ble 0 = false := iL (by omega)
  have sc : dQ 1 0 (.sl b 0 0 (some 0) 1) = (fT b).bind (cT fun c _ => (ob ((0 + 0 * 1).ble c.size)).bind fun _ => M.pure (c.sub 0 (0 * 1))) := rfl
  simp only [bE, fW, hb, Option.some.injEq, exists_eq_left', cT, hU, e0]
  refine fL (a := []) ((Rds.sl (sz := 1) b 0 0 (some 0) (.l []) 128 [] hb rfl (by simp) (fun j hj => by simp at hj)).cells) ?_
  simp only [iS, fP, hO, aM, r1, true_and, Nat.zero_add, List.nil_append, and_self, and_true]
  exact .inr (by omega)
theorem Lp.DL {h : Hp} {v : a9} {cnt : Nat} {xs : List a9} (l : Lp h v cnt xs) : binOp env .eql 95 v .aV = M.pure (.bool (mG v)) ∧ (mG v = true → v = .aV ∧ cnt = 0 ∧ xs = []) := by
  cases l with
  | nil => exact ⟨rfl, fun _ => ⟨rfl, rfl, rfl⟩⟩
  | zero id off c hh hs => exact ⟨rfl, fun q => by cases q⟩
  | sl id cnt cells xs hh h0 hl hx => exact ⟨rfl, fun q => by cases q⟩
theorem f86 (v : a9) (cnt : Nat) (xs : List a9) (h : Hp) (n : Nat) (hv : Lp h v cnt xs) (h1 : xs.all bI = true) (hc : cnt ≤ 1000000) (hf : bG h n) :
    Wp (bM env (aY env) 86 [v]) h n fun v' h' n' => Lp h' v' cnt xs ∧ (∀ j, bB v' = some j → n ≤ j ∧ j < n') ∧ Old h h' n := by
  refine aZ ax2 am5 ?_
  obtain ⟨en, en2⟩ := hv.DL
  simp only [VJ, Try.f86, Option.getD_some, List.replicate, fgr, Nat.reduceSub, en, gE]
  cases hnil : mG v with
  | true =>
    obtain ⟨e1, e2, e3⟩ := en2 hnil
    subst e1; subst e2; subst e3
    simp only [fgr, gE]
    exact ⟨.nil, (fun j q => by cases q), Old.refl _ _⟩
  | false =>
    simp only [tyr, buildSlice, fS, fill, Nat.ble, gE]
    refine fD jB hf (f := fun id => a9.sl id 0 0 (some 0) 1) fun H r o f => ?_
    simp only [builtin, gE]
    have hv' := hv.aS (h' := H) fun j q => o j (by have := hv.eT hf q; omega)
    have hlen := hv.rds.length
    refine LS (JO r hv'.rds h1 hc f) fun v2 h2 n2 hn2 hh => ?_
    simp only [fgr, gE]
    rcases hh with ⟨e1, e2, e3, e4⟩ | ⟨e1, e2, e3, e4⟩
    · subst e1; subst e2; subst e3; subst e4
      have : xs = [] := List.eq_nil_of_length_eq_zero (by omega)
      subst this
      exact ⟨.zero n 0 _ r (Nat.zero_le _), (fun j q => by injection q with q; omega), fun j hj => o j (by omega)⟩
    · subst e2; subst e3; subst e4
      have hxl : xs.length = cnt := by omega
      exact ⟨.sl (n + 1) cnt xs xs (aP _ _ _) (by omega) (by omega) (List.take_of_length_le (by omega)), (fun j q => by injection q with q; omega), fun j hj => by rw [aG _ _ (by omega), o j (by omega)]⟩
theorem f41 (x : Nat) (L : List Ver) (D M : Nat → Prop) (h : Hp) (n : Nat) (hs : Ix h n D M x L) (hc : L.length ≤ 1000000) (hf : bG h n) :
    Wp (bM env (aY env) 41 [.ptr x 0]) h n fun v' h' n' => ∃ y M', v' = .ptr y 0 ∧ Ix h' n' D M' y L ∧ (∀ j, M' j → n ≤ j) ∧ Old h h' n := by
  obtain ⟨⟨S, s0, rS, perm⟩, rL, ok⟩ := hs
  have s00 := s0
  obtain ⟨vl, vs, xl, xs, iv, mx, ml, ms, mn⟩ := s00
  refine aZ az6 ap0 ?_
  simp only [W8, Try.f41, Option.getD_some, List.replicate, fgr, hkr, Nat.reduceSub, gE]
  refine dA (f73 x _ true h n iv.row rfl) ?_
  simp only [fgr, hkr, gE]
  refine aJ hf (f40 h n hf) fun v1 h1 n1 hn1 f1 ⟨y, e1, hy, i1, o1⟩ => ?_
  subst e1
  obtain ⟨⟨S1, ⟨vl1, vs1, xl1, xs1, jv, _⟩, _⟩, _⟩ := i1
  have yn := jv.xn
  obtain ⟨e0, jr⟩ := jv.row
  have row1 := iv.row.aS (o1 x iv.xn)
  have lp1 := iv.l.aS (h' := h1) fun j q => o1 j (mn j (ml j q)).1
  have ls1 := iv.s.aS (h' := h1) fun j q => o1 j (mn j (ms j q)).1
  have xn := iv.xn
  have xy : x ≠ y := by omega
  have hSl : S.length = L.length := perm.length_eq.symm
  simp only [fgr, gE]
  refine cP ⟨rfl, ?_⟩
  simp only [tyr, aQ, Nat.reduceAdd, gE]
  rw [bJ (row1.one (off := 1) rfl pC rfl)]
  simp only [hkr, Nat.reduceAdd, gE]
  have fo1 : ∀ S : Nat → Bool, bG (only S h1) n1 := fun S => f1.only
  refine uP (fun j => decide (bB vl = some j)) f1 (f86 vl L.length xl (only (fun j => decide (bB vl = some j)) h1) n1 (lp1.aS fun j q => gW (decide_eq_true q)) iv.lp.cells hc (fo1 _)) fun v2 h2 n2 r2 w2 hr2 hn2 f2 ⟨l2, i2, o2⟩ hin hout hr hw => ?_
  have vln : ∀ j, bB vl = some j → j < n ∧ j ≠ x ∧ j ≠ y := fun j q => by
    have h1 := (mn j (ml j q)).1
    exact ⟨h1, (iv.vlx j q).1, by omega⟩
  have vsn : ∀ j, bB vs = some j → j < n ∧ j ≠ x ∧ j ≠ y := fun j q => by
    have h1 := (mn j (ms j q)).1
    exact ⟨h1, (iv.vsx j q).1, by omega⟩
  have old2 : Old h1 h2 n1 := fun j hj => by
    by_cases q : bB vl = some j
    · rw [hin j (.inl (decide_eq_true q)), o2 j hj, gW (decide_eq_true q)]
    · exact hout j hj (decide_eq_false q)
  have l2' : Lp h2 v2 L.length xl := l2.aS fun j q => hin j (.inr (i2 j q).1)
  simp only [tyr, aQ, Nat.reduceAdd, gE]
  rw [bJ ((row1.aS (old2 x (by have := iv.xn; omega))).one (off := 3) rfl pC rfl)]
  simp only [hkr, Nat.reduceAdd, gE]
  have ls2 := ls1.aS (h' := h2) fun j q => old2 j (by have := (vsn j q).1; omega)
  have fo2 : ∀ S : Nat → Bool, bG (only S h2) n2 := fun S => f2.only
  refine uP (fun j => decide (bB vs = some j)) f2 (f86 vs S.length xs (only (fun j => decide (bB vs = some j)) h2) n2 (ls2.aS fun j q => gW (decide_eq_true q)) iv.sp.cells (by omega) (fo2 _)) fun v3 h3 n3 r3 w3 hr3 hn3 f3 ⟨l3, i3, o3⟩ hin3 hout3 hr3' hw3 => ?_
  have old3 : Old h2 h3 n2 := fun j hj => by
    by_cases q : bB vs = some j
    · rw [hin3 j (.inl (decide_eq_true q)), o3 j hj, gW (decide_eq_true q)]
    · exact hout3 j hj (decide_eq_false q)
  have l3' : Lp h3 v3 S.length xs := l3.aS fun j q => hin3 j (.inr (i3 j q).1)
  have l2'' : Lp h3 v2 L.length xl := l2'.aS fun j q => old3 j (i2 j q).2
  have jr3 : h3 y = some (.row (.l [.bool true, vl1, fo false, vs1, fo true]) e0) := by rw [old3 y (by omega), old2 y (by omega)]; exact jr
  simp only [tyr, aQ, Nat.reduceAdd, gE]
  have k2 := l2.rds.kind
  have k3 := l3.rds.kind
  refine jZ (Row.eZ (v := v2) jr3 pC (by rw [k2.1]; rfl) (by show 1 + 1 ≤ 5; omega) (by rw [k2.1]; simp [k2.2.1])) ?_
  rw [k2.1, show cH [.bool true, vl1, fo false, vs1, fo true] 1 [v2] = [.bool true, v2, fo false, vs1, fo true] from rfl]
  simp only [tyr, aQ, Nat.reduceAdd, gE]
  refine jZ (Row.eZ (v := v3) (aP _ _ _) pC (by rw [k3.1]; rfl) (by show 3 + 1 ≤ 5; omega) (by rw [k3.1]; simp [k3.2.1])) ?_
  rw [k3.1, show cH [.bool true, v2, fo false, vs1, fo true] 3 [v3] = [.bool true, v2, fo false, v3, fo true] from rfl]
  simp only [fgr, Nat.reduceAdd, gE]
  have nx2 : x ∉ w2 := fun q => (vln x (of_decide_eq_true (hw x q))).2.1 rfl
  have ny2 : y ∉ w2 := fun q => (vln y (of_decide_eq_true (hw y q))).2.2 rfl
  have nry2 : y ∉ r2 := fun q => (vln y (of_decide_eq_true (hr y q))).2.2 rfl
  have nx3 : x ∉ w3 := fun q => (vsn x (of_decide_eq_true (hw3 x q))).2.1 rfl
  have ny3 : y ∉ w3 := fun q => (vsn y (of_decide_eq_true (hw3 y q))).2.2 rfl
  have nry3 : y ∉ r3 := fun q => (vsn y (of_decide_eq_true (hr3' y q))).2.2 rfl
  refine ⟨(by (try simp (disch := first | assumption | omega) only [dW, gF]); repeat' (first | rfl | exact (Bool.or_eq_true _ _).mpr (.inr rfl) | refine (Bool.and_eq_true _ _).mpr ⟨?_, ?_⟩)), ?_⟩
  obtain ⟨H4, hH4⟩ : ∃ H4, H4 = upd (upd h3 y (some (Blk.row (bK.l [a9.bool true, v2, fo false, vs1, fo true]) e0))) y (some (Blk.row (bK.l [a9.bool true, v2, fo false, v3, fo true]) e0)) := ⟨_, rfl⟩
  have o4 : ∀ j, j ≠ y → H4 j = h3 j := fun j hj => by rw [hH4, aG _ _ hj, aG _ _ hj]
  have r4 : Row H4 y [.bool true, v2, fo false, v3, fo true] := by rw [hH4]; exact Row.new _ _ _ _
  rw [← hH4]
  clear hH4
  have old4 : Old h H4 n := fun j hj => by rw [o4 j (by omega), old3 j (by omega), old2 j (by omega), o1 j hj]
  have hdn := iv.dn
  refine ⟨y, fun j => j = y ∨ bB v2 = some j ∨ bB v3 = some j, rfl, ⟨⟨S, ⟨v2, v3, xl, xs, ⟨r4, l2''.aS fun j q => o4 j (by have := i2 j q; omega), iv.lp.mono (fun j q => q) (fun j q => old4 j (hdn j q)), l3'.aS fun j q => o4 j (by have := i3 j q; omega), iv.sp.mono (fun j q => q) (fun j q => old4 j (hdn j q)), by omega, fun j q => by have := hdn j q; omega, fun q => by have := hdn y q; omega, fun j q => ⟨by have := i2 j q; omega, fun w => by have := hdn j w; have := i2 j q; omega⟩, fun j q => ⟨by have := i3 j q; omega, fun w => by have := hdn j w; have := i3 j q; omega, fun w => by have := i2 j w; have := i3 j q; omega⟩⟩, .inl rfl, fun j q => .inr (.inl q), fun j q => .inr (.inr q), fun j q => ?_⟩, rS, perm⟩, rL, ok⟩, fun j q => ?_, old4⟩
  · rcases q with q | q | q
    · subst q; exact ⟨by omega, fun w => by have := hdn _ w; omega⟩
    · have := i2 j q; exact ⟨by omega, fun w => by have := hdn j w; omega⟩
    · have := i3 j q; exact ⟨by omega, fun w => by have := hdn j w; omega⟩
  · rcases q with q | q | q
    · omega
    · have := i2 j q; omega
    · have := i3 j q; omega
def kpB (ls : List (List UInt8)) (j : Nat) : Bool := j == 0 || (ls.getD j [] != ls.getD (j - 1) [])
def kp (ls : List (List UInt8)) (m : Nat) : List Nat := (List.range m).filter (kpB ls)
structure Bs (h : Hp) (D : Nat → Prop) (xs : List a9) (ls : List (List UInt8)) : Prop where
  len : xs.length = ls.length
  at_ : ∀ (j : Nat) (hj : j < ls.length), ∃ x, xs[j]? = some x ∧ Bytes h x ls[j] ∧ ∀ i, bB x = some i → D i
theorem Bs.nil (h : Hp) (D : Nat → Prop) : Bs h D [] [] := ⟨rfl, fun j hj => by simp at hj⟩
theorem Bs.mono {h h' : Hp} {D D' : Nat → Prop} {xs : List a9} {ls : List (List UInt8)} (p : Bs h D xs ls) (hd : ∀ j, D j → D' j) (hk : ∀ j, D j → h' j = h j) : Bs h' D' xs ls :=
  ⟨p.len, fun j hj => by
    obtain ⟨x, e, b, d⟩ := p.at_ j hj
    exact ⟨x, e, b.aS fun i q => hk i (d i q), fun i q => hd i (d i q)⟩⟩
theorem Bs.kind {h : Hp} {D : Nat → Prop} {xs : List a9} {ls : List (List UInt8)} (p : Bs h D xs ls) : xs.all bI = true := PF fun j x hx => by
  have hj := (List.getElem?_eq_some_iff.1 hx).1
  obtain ⟨y, e, b, _⟩ := p.at_ j (by rw [← p.len]; exact hj)
  rw [hx] at e
  injection e with e
  rw [e]; exact b.kind.2.1
def BL (h : Hp) (n0 n : Nat) (v : a9) (ls : List (List UInt8)) : Prop := ∃ xs, Lst h 29 1 v ls.length xs ∧ Bs h (fun j => n0 ≤ j ∧ j < n ∧ bB v ≠ some j) xs ls ∧ ∀ j, bB v = some j → n0 ≤ j ∧ j < n
theorem BL.aS {h h' : Hp} {a b : Nat} {v : a9} {ls : List (List UInt8)} (l : BL h a b v ls) (hk : ∀ j, a ≤ j → j < b → h' j = h j) : BL h' a b v ls := by
  obtain ⟨cells, c1, c2, c3⟩ := l
  exact ⟨cells, c1.aS fun j q => hk j (c3 j q).1 (c3 j q).2, c2.mono (fun j q => q) (fun j q => hk j q.1 q.2.1), c3⟩
theorem BL.old {h h' : Hp} {a b n : Nat} {v : a9} {ls : List (List UInt8)} (l : BL h a b v ls) (hn : b ≤ n) (hk : Old h h' n) : BL h' a b v ls := l.aS fun j _ q => hk j (by omega)
theorem BL.len {h : Hp} {a b : Nat} {v : a9} {ls : List (List UInt8)} (l : BL h a b v ls) {u : TypeId} {ts : List TypeId} (hu : und env u = M.pure (.slice 29)) : dD env (u :: ts) v = M.pure (.int .i64 (ls.length : Nat)) := by
  obtain ⟨cells, c1, c2, c3⟩ := l
  exact c1.rds.dD hu
theorem u81 : und env 81 = M.pure (.slice 29) := rfl
theorem z29 : sizeOf env 29 = M.pure 1 := rfl
theorem BL.idx {h : Hp} {a b : Nat} {v : a9} {ls : List (List UInt8)} (l : BL h a b v ls) {i : Nat} (hi : i < ls.length) {h' : Hp} {n' : Nat} : Rd (indexAddr env 81 v (.int .i64 ((i : Nat) : Int))) h' n' [] (dB (i * 1) v) := by
  obtain ⟨cells, c1, c2, c3⟩ := l
  exact c1.rds.idx u81 z29 rfl hi
theorem BL.at_ {h : Hp} {a b : Nat} {v : a9} {ls : List (List UInt8)} (l : BL h a b v ls) {i : Nat} (hi : i < ls.length) : ∃ x, (∀ n, Rd (load env 29 (dB (i * 1) v)) h n (rid v) x) ∧ Bytes h x ls[i] ∧ ∀ j, bB x = some j → a ≤ j ∧ j < b := by
  obtain ⟨cells, c1, c2, c3⟩ := l
  obtain ⟨x, e, b, d⟩ := c2.at_ i hi
  exact ⟨x, fun n => c1.rds.load wQ rfl (by rw [Nat.mul_one]; exact e), b, fun j q => ⟨(d j q).1, (d j q).2.1⟩⟩
def jI (L : List Ver) (z : Int) (ds : List (List UInt8)) : Nat := (ds.map fun d => (ofV L d z).length).sum
theorem S5 {L : List Ver} {z : Int} {v : Ver} (hv : v ∈ L) (ht : gB v z = true) : (atV L v.aO v.pn z).isSome = true := by
  unfold atV
  cases e : (L.filter fun w => same v.aO v.pn w && gB w z).getLast? with
  | some a => rfl
  | none =>
    rw [List.getLast?_eq_none_iff] at e
    have : v ∈ L.filter fun w => same v.aO v.pn w && gB w z := List.mem_filter.2 ⟨hv, by simp [ht, same]⟩
    rw [e] at this
    cases this
noncomputable def L49 (tm : List a9) : lE := { state := .ready, pending := none, fn := 49, tmps := tm, params := [10], assign := LB, body := L6 }
def nJ (L : List Ver) (p k : Nat) : List Ver := (L.take k).drop p
theorem LO (L : List Ver) (p : Nat) : nJ L p p = [] := by
  unfold nJ
  exact List.drop_eq_nil_of_le (by rw [List.length_take]; omega)
theorem LN {L : List Ver} {p k : Nat} (hp : p ≤ k) (hk : k < L.length) : nJ L p (k + 1) = nJ L p k ++ [L[k]] := by
  unfold nJ
  rw [kL hk, List.drop_append_of_le_length (by rw [List.length_take]; omega)]
theorem Q9 (L : List Ver) (p k : Nat) : (nJ L p k).length ≤ L.length := by
  unfold nJ
  rw [List.length_drop, List.length_take]; omega
structure P49 (H7 : Hp) (n : Nat) (L : List Ver) (aO : List UInt8) (pn : Int) (lo : lE) (nS k : Nat) (h1 : Hp) (n1 : Nat) : Prop where
  fr : bG h1 n1
  n7 : n + 1 + 1 + 1 + 1 + 1 ≤ nS
  ns : nS ≤ n1
  kp : ∀ j, j < n + 1 + 1 + 1 + 1 + 1 → j ≠ n + 1 → j ≠ n + 1 + 1 + 1 + 1 → h1 j = H7 j
  lp : h1 (n + 1 + 1 + 1 + 1) = some (.loop lo)
  cl : ∃ acc cells, h1 (n + 1) = some (.row (.l [acc]) 43) ∧ Lst h1 31 70 acc (nJ L (pos false L (key aO pn 0)) k).length cells ∧ Vs h1 (fun j => nS ≤ j ∧ j < n1 ∧ bB acc ≠ some j) cells (nJ L (pos false L (key aO pn 0)) k) ∧ ∀ j, bB acc = some j → nS ≤ j
  sm : ∀ i (hi : i < L.length), pos false L (key aO pn 0) ≤ i → i < k → same aO pn L[i] = true
set_option maxHeartbeats 4000000 in
theorem f49 (x : Nat) (aO : List UInt8) (pn : Int) (hl : aO.length = 32) (L : List Ver) (D M : Nat → Prop) (h : Hp) (n : Nat) (hs : Ix h n D M x L) (hc : L.length ≤ 1000000) (hf : bG h n) :
    Wp (bM env (aY env) 49 [.ptr x 0, .agg (aX aO pn)]) h n fun v' h' n' => Old h h' n ∧ ∃ k, pos false L (key aO pn 0) ≤ k ∧ (∀ i (hi : i < L.length), pos false L (key aO pn 0) ≤ i → i < k → same aO pn L[i] = true) ∧ (∀ hk : k < L.length, same aO pn L[k] = false) ∧ VL h' n n' v' (nJ L (pos false L (key aO pn 0)) k) := by
  obtain ⟨⟨S, s0, rS, perm⟩, rL, ok⟩ := hs
  obtain ⟨vl, vs, xl, xs, iv, mx, ml, ms, mn⟩ := s0
  refine aZ az4 ao8 ?_
  simp only [W6, Try.f49, Option.getD_some, List.replicate, Nat.reduceAdd, Nat.reduceSub, gE]
  refine dU (v := .agg (aX aO pn)) j7 rfl hf fun H1 r1 o1 f1 => ?_
  replace r1 : Row H1 n (aX aO pn) := r1
  simp only [fgr, gE]
  rw [cD vM rfl]
  obtain ⟨H2, hH2⟩ : ∃ H2, H2 = upd H1 (n + 1) (some (Blk.row (bK.l [a9.aV]) 43)) := ⟨_, rfl⟩
  show Ops env 49 none _ _ _ _ _ (upd H1 (n + 1) (some (Blk.row (bK.l [a9.aV]) 43))) _
  rw [← hH2]
  have f2 : bG H2 (n + 1 + 1) := by rw [hH2]; exact f1.new
  have o2 : ∀ j, j ≠ n + 1 → H2 j = H1 j := fun j hj => by rw [hH2, aG _ _ hj]
  have r2 : H2 (n + 1) = some (Blk.row (bK.l [a9.aV]) 43) := by rw [hH2, aP]
  clear hH2
  have r1' : Row H2 n (aX aO pn) := r1.aS (o2 n (by omega))
  simp only [fgr, gE]
  rw [aI (show Rd (load env 28 (.ptr n 0)) _ _ [n] (.agg (aX aO pn)) from Row.gT r1' j7 rfl (c9 hl))]
  simp only [hkr, gE]
  refine dA (f81 x aO pn _ _) ?_
  simp only [bP, fgr, bX, put, aE]
  refine lS (g := 106) (first := []) (cap := [.ptr (n + 1 + 1) 0, .ptr (n + 1 + 1 + 1) 0]) rfl rfl ?_
  let TM : List a9 := (.ptr x 0 :: .agg (aX aO pn) :: a9.aA :: .ptr n 0 :: .aV :: .ptr (n + 1) 0 :: undef :: a9.aA :: a9.aA :: .fn (.func 106) [] [.ptr (n + 1 + 1) 0, .ptr (n + 1 + 1 + 1) 0] :: undef :: a9.aA :: a9.aA :: a9.aA :: a9.aA :: a9.aA :: a9.aA :: a9.aA :: a9.aA :: [])
  obtain ⟨H6, hH6⟩ : ∃ H6, H6 = upd (upd (upd H2 (n + 1 + 1) (some (Blk.row (bK.l [a9.ptr x 0]) 56))) (n + 1 + 1 + 1) (some (Blk.row (bK.l (aX aO pn)) 28))) (n + 1 + 1 + 1 + 1) (some (Blk.loop (L49 TM))) := ⟨_, rfl⟩
  show Wp (gX env (aY env) 106 [a9.fn (Fn.yield (n + 1 + 1 + 1 + 1)) [] [], a9.ptr (n + 1 + 1) 0, a9.ptr (n + 1 + 1 + 1) 0]) (upd (upd (upd H2 (n + 1 + 1) (some (Blk.row (bK.l [a9.ptr x 0]) 56))) (n + 1 + 1 + 1) (some (Blk.row (bK.l (aX aO pn)) 28))) (n + 1 + 1 + 1 + 1) (some (Blk.loop (L49 TM)))) _ _
  rw [SH, ← hH6]
  have f6 : bG H6 (n + 1 + 1 + 1 + 1 + 1) := by rw [hH6]; exact f2.new.new.new
  have old6 : Old h H6 n := fun j hj => by rw [hH6, aG _ _ (by omega), aG _ _ (by omega), aG _ _ (by omega), o2 j (by omega), o1 j (by omega)]
  have g3 : H6 (n + 1) = some (Blk.row (bK.l [a9.aV]) 43) := by rw [hH6, aG _ _ (by omega), aG _ _ (by omega), aG _ _ (by omega)]; exact r2
  have g4 : Row H6 (n + 1 + 1) [.ptr x 0] := by rw [hH6]; exact ((Row.new _ _ _ _).upd (by omega)).upd (by omega)
  have g5 : Row H6 (n + 1 + 1 + 1) (aX aO pn) := by rw [hH6]; exact (Row.new _ _ _ _).upd (by omega)
  have g6 : H6 (n + 1 + 1 + 1 + 1) = some (.loop (L49 TM)) := by rw [hH6, aP]
  clear hH6
  have iv6 : IxV H6 (n + 1 + 1 + 1 + 1 + 1) D x vl vs xl xs L S :=
    ⟨iv.row.aS (old6 x iv.xn), iv.l.aS (fun j q => old6 j (mn j (ml j q)).1), iv.lp.mono (fun j q => q) (fun j q => old6 j (iv.dn j q)), iv.s.aS (fun j q => old6 j (mn j (ms j q)).1), iv.sp.mono (fun j q => q) (fun j q => old6 j (iv.dn j q)), by have := iv.xn; omega, fun j q => by have := iv.dn j q; omega, iv.xd, iv.vlx, iv.vsx⟩
  have lt : ∀ (j : Nat), j < n → ∀ (h1 : Hp), (∀ j, j < n + 1 + 1 + 1 + 1 + 1 → j ≠ n + 1 → j ≠ n + 1 + 1 + 1 + 1 → h1 j = H6 j) → h1 j = H6 j := fun j hj h1 hk => hk j (by omega) (by omega) (by omega)
  refine dL ((f106 (.fn (.yield (n + 1 + 1 + 1 + 1)) [] []) (n + 1 + 1) (n + 1 + 1 + 1) x aO pn hl L S D (P49 H6 n L aO pn (L49 TM)) (fun _ _ _ => False) vl vs xl xs H6 (n + 1 + 1 + 1 + 1 + 1) iv6 (fun j q => by have := (mn j (ml j q)).1; omega) rL hc ⟨rfl, rfl, rfl⟩ g4 g5 (by omega) (by omega) f6 ?_ ?_ ?_ (fun _ _ _ _ _ _ _ q => q) ?_).xP f6) ?_
  · intro nS k h1 n1 p
    exact ⟨iv6.l.rds.aS (fun j q => lt j (mn j (ml j q)).1 h1 p.kp), iv6.lp.mono (fun j q => q) (fun j q => lt j (iv.dn j q) h1 p.kp), p.fr⟩
  · intro h' nS hn' hf' ho'
    exact ⟨hf', by omega, Nat.le_refl _, fun j hj _ _ => ho' j hj, (ho' _ (by omega)).trans g6, ⟨.aV, [], (ho' _ (by omega)).trans g3, by rw [LO]; exact .nil, by rw [LO]; exact Vs.nil _ _, fun j q => by cases q⟩, fun i hi h1 h2 => by omega⟩
  · intro nS k h1 n1 i b hi hns p
    obtain ⟨acc, cells, c1, c2, c3, c4⟩ := p.cl
    have hn7 := p.n7
    exact ⟨p.fr.upd (by have := p.ns; omega), p.n7, p.ns, fun j hj h1' h2' => by rw [aG _ _ (by omega)]; exact p.kp j hj h1' h2', by rw [aG _ _ (by omega)]; exact p.lp, ⟨acc, cells, by rw [aG _ _ (by omega)]; exact c1, c2.aS fun j q => aG _ _ (by have := c4 j q; omega), c3.mono (fun j q => q) (fun j q => aG _ _ (by omega)), c4⟩, p.sm⟩
  · intro nS k hk id sv h1 n1 hnS hpk p a d1 d2 hsm
    have hidn := iv.dn id d1
    refine nF p.lp rfl rfl ?_
    simp only [LB, List.getD_cons_zero, mD, List.zip_cons_cons, List.zip_nil_left, L49, TM, cZ, Try.f49, Option.getD_some, fgr, gE]
    refine ⟨_, p.lp, rfl, ?_⟩
    obtain ⟨h2, hh2⟩ : ∃ h2, h2 = upd h1 (n + 1 + 1 + 1 + 1) (some (Blk.loop { L49 TM with state := .busy })) := ⟨_, rfl⟩
    have ho2 : ∀ j, j ≠ n + 1 + 1 + 1 + 1 → h2 j = h1 j := fun j hj => by rw [hh2, aG _ _ hj]
    have hlo2 : h2 (n + 1 + 1 + 1 + 1) = some (.loop { L49 TM with state := .busy }) := by rw [hh2, aP]
    have hns := p.ns
    have h77 := p.n7
    have hf2 : bG h2 n1 := by rw [hh2]; exact p.fr.upd (by omega)
    show Run env 49 _ _ _ _ _ (upd h1 (n + 1 + 1 + 1 + 1) (some (Blk.loop { L49 TM with state := .busy }))) n1
    rw [← hh2]
    clear hh2
    have a2 : At h2 id sv L[k] := a.aS (ho2 id (by omega)) (fun j q => ho2 j (by have := iv.dn j (d2 j q); omega))
    obtain ⟨acc, cells, q1, q2, q3, q4⟩ := p.cl
    have sm' : ∀ i (hi : i < L.length), pos false L (key aO pn 0) ≤ i → i < k + 1 → same aO pn L[i] = true := fun i hi h1' h2' => by
      by_cases q : i = k
      · subst q; exact hsm
      · exact p.sm i hi h1' (by omega)
    have cell : Row h2 (n + 1) [acc] := ⟨_, (ho2 _ (by omega)).trans q1⟩
    have q2' := q2.aS (h' := h2) fun j q => ho2 j (by have := q4 j q; omega)
    simp only [L6, List.getD_cons_zero, cZ, Try.f49, Option.getD_some, bP, fgr, List.nil_append, List.append_nil]
    refine cP ⟨rfl, ?_⟩
    simp only [gE]
    rw [bJ (cell.one (off := 0) rfl vM rfl)]
    simp only [Nat.reduceAdd, gE]
    rw [bJ (fI a2.row a2.ok)]
    simp only [hkr, Nat.reduceAdd, gE]
    have fo2 : bG (only (fun j => decide (bB sv = some j)) h2) n1 := hf2.only
    refine uP (fun j => decide (bB sv = some j)) hf2 (f77 L[k] sv a2.ok (only (fun j => decide (bB sv = some j)) h2) n1 (a2.s.aS fun j q => gW (decide_eq_true q)) (fun j q => by have := iv.dn j (d2 j q); omega) (ok _ (List.getElem_mem hk)).2 fo2) fun v9 h9 n9 r9 w9 hr9 hn9 f9 ⟨s', e9, b9, i9, o9⟩ hin hout hr hw => ?_
    subst e9
    have old9 : Old h2 h9 n1 := fun j hj => by
      by_cases q : bB sv = some j
      · rw [hin j (.inl (decide_eq_true q)), o9 j hj, gW (decide_eq_true q)]
      · exact hout j hj (decide_eq_false q)
    have b9' : Bytes h9 s' L[k].aL := b9.aS (fun j q => hin j (.inr (i9 j q).1))
    simp only [Nat.reduceAdd, DY (bD a2.ok.h a2.ok.b), gE]
    refine kA eB f9 fun H10 r10 o10 f10 => ?_
    simp only [builtin, Nat.reduceAdd, gE]
    have old10 : Old h2 H10 n1 := fun j hj => by rw [o10 j (by omega), old9 j hj]
    have accl : ∀ j, bB acc = some j → j < n1 := fun j q => q2.eT p.fr q
    have q2'' := q2'.aS (h' := H10) fun j q => old10 j (accl j q)
    have tl := Q9 L (pos false L (key aO pn 0)) k
    refine eE f10 (nB (i := fX.i) (e := 31) (Q1 := fun v' h' n' => n9 + 1 ≤ n' ∧ bG h' n' ∧ Lst h' 31 70 v' ((nJ L (pos false L (key aO pn 0)) k).length + 1) (cells ++ aK L[k] s') ∧ (bB v' = bB acc ∨ bB v' = some (n9 + 1) ∧ n9 + 1 < n') ∧ ∀ j, j < n9 + 1 → bB acc ≠ some j → h' j = H10 j) q2'' (mV (cnt := 1) r10 (by rw [bD a2.ok.h a2.ok.b]; rfl)) u43 u43 eB (cS b9.kind.2.1) (by decide) (by show 2 * (_ + 1) * 128 ≤ _; omega) (by omega) f10 (fun v' h' n' a b c d e => ⟨a, b, c, d, e⟩)) fun v11 h11 n11 r11 w11 hn11 f11 ⟨_, _, l11, i11, o11⟩ => ?_
    have o111 : ∀ j, j < n1 → bB acc ≠ some j → j ≠ n + 1 + 1 + 1 + 1 → h11 j = h1 j := fun j a b c => by rw [o11 j (by omega) b, old10 j a, ho2 j c]
    have accne : ∀ j, j < nS → bB acc ≠ some j := fun j hj q => by have := q4 j q; omega
    have c11 : h11 (n + 1) = some (Blk.row (bK.l [acc]) 43) := (o111 _ (by omega) (accne _ (by omega)) (by omega)).trans q1
    have l11n : ∀ j, j < n9 + 1 → bB acc ≠ some j → bB v11 ≠ some j := fun j hj hn q => by
      rcases i11 with w | ⟨w, _⟩
      · rw [w] at q; exact hn q
      · rw [w] at q; injection q with q; omega
    have nw : n + 1 ∉ w9 := fun q => by have := iv.dn _ (d2 _ (of_decide_eq_true (hw _ q))); omega
    have nr : n + 1 ∉ r9 := fun q => by have := iv.dn _ (d2 _ (of_decide_eq_true (hr _ q))); omega
    have v11k := l11.rds.kind
    have v11n : ∀ j, bB v11 = some j → nS ≤ j := fun j q => by
      rcases i11 with w | ⟨w, _⟩
      · rw [w] at q; exact q4 j q
      · rw [w] at q; injection q with q; omega
    simp only [Nat.reduceAdd, gE]
    refine jZ (Row.eZ (v := v11) c11 vM (by rw [v11k.1]; rfl) (by show 0 + 1 ≤ 1; omega) (by rw [v11k.1]; simp [v11k.2.1])) ?_
    rw [v11k.1, show cH [acc] 0 [v11] = [v11] from rfl]
    simp only [jG, bP, fgr, bX, aE, Nat.reduceAdd]
    have hlo11 : upd h11 (n + 1) (some (Blk.row (bK.l [v11]) 43)) (n + 1 + 1 + 1 + 1) = some (.loop { L49 TM with state := .busy }) := by
      rw [aG _ _ (by omega), o11 _ (by omega) (accne _ (by omega)), old10 _ (by omega)]
      exact hlo2
    refine ⟨(by (try simp (disch := first | assumption | omega) only [dW, gF]); repeat' (first | rfl | exact (Bool.or_eq_true _ _).mpr (.inr rfl) | refine (Bool.and_eq_true _ _).mpr ⟨?_, ?_⟩)), _, hlo11, .inl ⟨.inl rfl, ⟨(f11.upd (by omega)).upd (by omega), h77, by omega, fun j hj h1' h2' => ?_, aP _ _ _, ⟨v11, cells ++ aK L[k] s', by rw [aG _ _ (by omega), aP], ?_, ?_, v11n⟩, sm'⟩⟩, fun j hj hjn => ?_, ?_⟩
    · rw [aG _ _ h2', aG _ _ h1', o111 j (by omega) (accne j (by omega)) h2']; exact p.kp j hj h1' h2'
    · rw [LN hpk hk, List.length_append]
      exact l11.aS (fun j q => by rw [aG _ _ (by have := v11n j q; omega), aG _ _ (by have := v11n j q; omega)])
    · rw [LN hpk hk]
      have ne2 : ∀ j, nS ≤ j → ∀ (H : Hp) b b2, upd (upd H (n + 1) b) (n + 1 + 1 + 1 + 1) b2 j = H j := fun j hj H b b2 => by rw [aG _ _ (by omega), aG _ _ (by omega)]
      refine (q3.mono (fun j q => ⟨q.1, by omega, l11n j (by omega) q.2.2⟩) (fun j q => by rw [ne2 j q.1, o111 j q.2.1 q.2.2 (by omega)])).vN (b9'.aS fun j q => ?_) a2.ok (fun j q => ⟨by have := i9 j q; omega, by have := i9 j q; omega, l11n j (by have := i9 j q; omega) (fun w => by have := accl j w; have := i9 j q; omega)⟩)
      rw [ne2 j (by have := i9 j q; omega), o11 j (by have := i9 j q; omega) (fun w => by have := accl j w; have := i9 j q; omega), o10 j (by have := i9 j q; omega)]
    · rw [aG _ _ (by omega), aG _ _ (by omega), o111 j (by omega) (accne j hjn) (by omega)]
    · rw [aG _ _ (by omega), aG _ _ (by omega), o111 _ (by omega) (accne _ (by omega)) (by omega)]
  · rintro v5 h5 n5 ⟨⟨e5, nS, hnS, hh⟩, hn5, f5⟩
    rcases hh with ⟨k, hk1, p, hk3⟩ | hr
    · refine ⟨_, p.lp, (fun q => by cases q), .normal, rfl, ?_⟩
      obtain ⟨acc, cells, c1, c2, c3, c4⟩ := p.cl
      have hns := p.ns
      have h7 := p.n7
      simp only [gE]
      have hrow : Row (upd h5 (n + 1 + 1 + 1 + 1) (some (.loop { L49 TM with state := .exhausted }))) (n + 1) [acc] := ⟨_, (aG _ _ (by omega)).trans c1⟩
      rw [aI (hrow.one (off := 0) rfl vM rfl)]
      simp only [fgr, gE]
      refine ⟨fun j hj => ?_, k, hk1, p.sm, hk3, cells, c2.aS (fun j q => aG _ _ (by have := c4 j q; omega)), c3.mono (fun j q => ⟨by omega, q.2.1, q.2.2⟩) (fun j q => aG _ _ (by omega)), fun j q => ⟨by have := c4 j q; omega, c2.eT p.fr q⟩⟩
      rw [aG _ _ (by omega), lt j hj h5 p.kp, old6 j hj]
    · exact hr.elim
def CZ (L : List Ver) (aO : List UInt8) (pn : Int) : List Ver := L.filter (same aO pn)
theorem aB8 {K : Nat → Prop} {x : Nat} (aO : List UInt8) (pn : Int) (hl : aO.length = 32) {L : List Ver} {h : Hp} {n : Nat} (hs : Ixk K h n x L) (hc : L.length ≤ 900000) (hf : bG h n) :
    Wp (bM env (aY env) 49 [.ptr x 0, .agg (aX aO pn)]) h n fun v' h' n' => VL h' n n' v' (CZ L aO pn) ∧ Old h h' n := by
  have rL := hs.rL
  obtain ⟨⟨D, M, i, q⟩, g⟩ := hs
  refine dL (f49 x aO pn hl L D M h n i (by omega) hf) fun v' h' n' ⟨o, k, hk, sm, ne, v⟩ => ⟨?_, o⟩
  have e := PB rL g hk sm ne (fun _ => true)
  rw [List.filter_eq_self.2 fun _ _ => rfl] at e
  have e2 : nJ L (pos false L (key aO pn 0)) k = CZ L aO pn := by
    unfold nJ CZ
    rw [e]
    congr 1
    funext v
    rw [Bool.and_true]
  rwa [e2] at v
structure PH (h : Hp) (n : Nat) (N : a9) : Prop where
  k : N = .dP ∨ ∃ x, N = .ptr x 0
  f : ∀ h' n', Old h h' n → Wp (bM env (aY env) 73 [N]) h' n' fun v a b => v = .bool true ∧ a = h' ∧ b = n'
theorem PH.old {h h' : Hp} {n n' : Nat} {N : a9} (q : PH h n N) (hn : n ≤ n') (ho : Old h h' n) : PH h' n' N := ⟨q.k, fun h2 n2 o => q.f h2 n2 fun j hj => by rw [o j (by omega), ho j hj]⟩
theorem PH.kind {h : Hp} {n : Nat} {N : a9} (q : PH h n N) : N.cells = [N] ∧ bI N = true ∧ dV N = false := by
  rcases q.k with e | ⟨x, e⟩ <;> subst e <;> exact ⟨rfl, rfl, rfl⟩
def nv (pn made value cV : Int) (s : List UInt8) : Ver := ⟨z0, pn, made, value, s, false, cV, z0⟩
def a4 : Ver := nv 3 4 0 4 []
def a6 : Ver := nv 3 6 2 0 []
def b1v : Ver := nv 1 0 0 0 [98]
def L3 : List Ver := [b1v, a4, a6]
theorem BL.get {h : Hp} {a b : Nat} {v : a9} {ls : List (List UInt8)} (l : BL h a b v ls) {i : Nat} {z : Int} (hz : z = (i : Nat)) (hi : i < ls.length) : ∃ x, (∀ h' n', Rd (indexAddr env 81 v (.int .i64 z)) h' n' [] (dB (i * 1) v)) ∧ (∀ n, Rd (load env 29 (dB (i * 1) v)) h n (rid v) x) ∧ Bytes h x ls[i] := by
  subst hz
  obtain ⟨x, e, bs, d⟩ := l.at_ hi
  exact ⟨x, fun h' n' => l.idx hi, e, bs⟩
abbrev Pt := List UInt8 × Int
def ptA (p : Pt) : a9 := .agg (aX p.1 p.2)
theorem E8 {a b : UInt8} (h : u8 a = u8 b) : a = b := by
  unfold u8 at h
  injection h with h1 h2
  exact UInt8.toNat_inj.1 (by omega)
theorem mF : ∀ {a b : List UInt8}, a.map u8 = b.map u8 → a = b
  | [], [], _ => rfl
  | [], _ :: _, h => by cases h
  | _ :: _, [], h => by cases h
  | x :: a, y :: b, h => by
    simp only [List.map_cons, List.cons.injEq] at h
    rw [E8 h.1, mF h.2]
theorem sX {p q : Pt} (h : ptA p = ptA q) : p = q := by
  unfold ptA aX at h
  injection h with h
  obtain ⟨h1, h2⟩ := List.append_inj' h rfl
  injection h2 with h2
  injection h2 with _ h2
  exact Prod.ext (mF h1) h2
noncomputable def isK (k a : a9) : Bool := @decide (a = k) (Classical.propDecidable _)
theorem mX {k a : a9} : isK k a = true ↔ a = k := by unfold isK; exact @decide_eq_true_iff _ (Classical.propDecidable _)
theorem xJ {k a : a9} (h : a ≠ k) : isK k a = false := by
  cases e : isK k a with
  | false => rfl
  | true => exact absurd (mX.1 e) h
theorem wK (p q : Pt) (l1 : p.1.length = 32) (l2 : q.1.length = 32) : aU env 28 (ptA p) (ptA q) = M.pure (isK (ptA p) (ptA q)) := by
  have e : aU env 28 (ptA p) (ptA q) = M.pure (decide (p.1 = q.1) && (p.2 == q.2)) := RI 97 p.1 q.1 p.2 q.2 l1 l2
  rw [e]
  congr 1
  by_cases c : p = q
  · subst c
    rw [mX.2 rfl]; simp
  · rw [xJ fun w => c (sX w).symm]
    by_cases d : p.1 = q.1
    · rw [decide_eq_true d, Bool.true_and, beq_eq_false_iff_ne]
      exact fun w => c (Prod.ext d w)
    · rw [decide_eq_false d]; rfl
theorem MU (d : Nat) (x : UInt8) : jE env (d + 1) 5 (u8 x) = M.pure () := by
  simp only [jE, und, ti5, aB]
theorem nV {α : Type} {f : α → M Unit} : ∀ (l : List α), (∀ x ∈ l, f x = M.pure ()) → C0 f l = M.pure ()
  | [], _ => rfl
  | x :: l, h => by simp only [C0, h x (List.mem_cons_self ..), aB, nV l fun y hy => h y (List.mem_cons_of_mem _ hy)]
theorem EU (d : Nat) (a : List UInt8) (ha : a.length = 32) : jE env (d + 1 + 1) 25 (.agg (a.map u8)) = M.pure () := by
  rw [jE]
  simp only [und, kH, aB, dE, sizeOf, ti5]
  refine nV _ fun i hi => ?_
  have hi := List.mem_range.1 hi
  rw [Nat.mul_one, xA (by omega), aB, MU]
theorem uJ (p : Pt) (l1 : p.1.length = 32) : jE env 100 28 (ptA p) = M.pure () := by
  have p0 : part env 25 (aX p.1 p.2) 0 = M.pure (.agg (p.1.map u8)) := by
    simp only [part, kH, aB, dT, List.drop_zero]
    rw [show (aX p.1 p.2).take 32 = p.1.map u8 by unfold aX; rw [List.take_append_of_le_length (by simp [l1]), List.take_of_length_le (by simp [l1])]]
  have p1 : part env 26 (aX p.1 p.2) 32 = M.pure (.int .u32 p.2) := by
    simp only [part, uF, aB, dT, lA l1, dG]
  have p2 : jE env (97 + 1 + 1) 26 (.int .u32 p.2) = M.pure () := by
    rw [jE]; simp only [und, uF, aB]
  unfold ptA
  show jE env (97 + 1 + 1 + 1) 28 (.agg (aX p.1 p.2)) = M.pure ()
  rw [jE]
  simp only [und, j7, aB, dE]
  simp only [C0, show decide ("Tx" = "_") = false from rfl, show decide ("N" = "_") = false from rfl, p0, p1, aB, EU 97 p.1 l1, p2]
def l9 (q : List Pt) (p : Pt) : Nat := q.countP fun x => decide (x = p)
theorem wZ (q : List Pt) (p x : Pt) : l9 (q ++ [p]) x = l9 q x + if p = x then 1 else 0 := by
  unfold l9
  rw [List.countP_append, List.countP_singleton]
  congr 1
  by_cases c : p = x <;> simp [c]
theorem Q8 (q : List Pt) (p : Pt) : l9 q p ≤ q.length := List.countP_le_length
def kI (q dd : List Pt) : List (a9 × a9) := dd.map fun p => (ptA p, .int .i64 (l9 q p : Nat))
structure Pm (h : Hp) (id : Nat) (q : List Pt) : Prop where
  ex : ∃ b dd, fR h id b (kI q dd) ∧ dd.Nodup ∧ (∀ p ∈ dd, p.1.length = 32) ∧ ∀ p, p ∈ dd ↔ p ∈ q
theorem Pm.aS {h h' : Hp} {id : Nat} {q : List Pt} (m : Pm h id q) (hk : h' id = h id) : Pm h' id q := by
  obtain ⟨b, dd, a, r⟩ := m
  exact ⟨b, dd, a.aS hk, r⟩
theorem E0 (q : List Pt) (p : Pt) : ∀ (dd : List Pt) (i : Nat), (p ∉ dd ∧ eG (isK (ptA p)) (kI q dd) i = none) ∨ ∃ j, j < dd.length ∧ dd[j]? = some p ∧ eG (isK (ptA p)) (kI q dd) i = some (i + j, .int .i64 (l9 q p : Nat))
  | [], i => .inl ⟨List.not_mem_nil, rfl⟩
  | x :: dd, i => by
    by_cases c : x = p
    · subst c
      refine .inr ⟨0, by simp, rfl, ?_⟩
      simp only [kI, List.map_cons, eG, mX.2 rfl, Nat.add_zero, if_pos]
    · have e : eG (isK (ptA p)) (kI q (x :: dd)) i = eG (isK (ptA p)) (kI q dd) (i + 1) := by
        simp only [kI, List.map_cons, eG, xJ fun w => c (sX w), Bool.false_eq_true, if_neg, not_false_eq_true]
      rcases E0 q p dd (i + 1) with ⟨h1, h2⟩ | ⟨j, h1, h2, h3⟩
      · refine .inl ⟨fun w => ?_, e.trans h2⟩
        rcases List.mem_cons.1 w with w | w
        · exact c w.symm
        · exact h1 w
      · exact .inr ⟨j + 1, by simpa using h1, by simpa using h2, by rw [e, h3, Nat.add_assoc, Nat.add_comm 1 j]⟩
theorem zW {q : List Pt} {p : Pt} (h : p ∉ q) : l9 q p = 0 := by
  unfold l9
  rw [List.countP_eq_zero]
  intro x hx
  simp only [decide_eq_true_eq]
  rintro rfl
  exact h hx
theorem E9 : und env 161 = M.pure (.map 28 3) := rfl
theorem z3o : cE env 3 = M.pure (.int .i64 0) := rfl
theorem LM {q dd : List Pt} {p : Pt} (l1 : p.1.length = 32) (hl : ∀ p ∈ dd, p.1.length = 32) : ∀ e ∈ kI q dd, aU env 28 (ptA p) e.1 = M.pure (isK (ptA p) e.1) := fun e he => by
  obtain ⟨x, hx, rfl⟩ := List.mem_map.1 he
  exact wK p x l1 (hl x hx)
theorem Pm.lookup {h : Hp} {n id : Nat} {q : List Pt} (m : Pm h id q) {p : Pt} (l1 : p.1.length = 32) : Rd (j9 env 161 (.map id) (ptA p) false) h n [id] (.int .i64 (l9 q p : Nat)) := by
  obtain ⟨b, dd, a, nd, hl, hm⟩ := m
  have := a.lookup (n := n) E9 (uJ p l1) (LM l1 hl) z3o
  rcases E0 q p dd 0 with ⟨h1, h2⟩ | ⟨j, h1, h2, h3⟩
  · rw [h2] at this
    rw [zW fun w => h1 ((hm p).2 w)]
    exact this
  · rw [h3] at this
    exact this
def pcv (q : List Pt) (x : Pt) : Pt × Int := (x, ((l9 q x : Nat) : Int))
theorem CL (q dd : List Pt) : (dd.map (pcv q)).map Ins.cv = kI q dd := by
  rw [List.map_map]; rfl
theorem GQ (q : List Pt) (p : Pt) : ∀ (dd : List Pt) (i : Nat), (p ∉ dd ∧ Ins.mY p (dd.map (pcv q)) i = none) ∨ ∃ j, j < dd.length ∧ dd[j]? = some p ∧ Ins.mY p (dd.map (pcv q)) i = some (i + j, ((l9 q p : Nat) : Int))
  | [], i => .inl ⟨List.not_mem_nil, rfl⟩
  | x :: dd, i => by
    by_cases c : x = p
    · subst c
      exact .inr ⟨0, by simp, rfl, by simp [Ins.mY, pcv]⟩
    · have e : Ins.mY p ((x :: dd).map (pcv q)) i = Ins.mY p (dd.map (pcv q)) (i + 1) := by
        simp only [List.map_cons, Ins.mY, pcv]
        rw [if_neg c]
      rcases GQ q p dd (i + 1) with ⟨h1, h2⟩ | ⟨j, h1, h2, h3⟩
      · refine .inl ⟨fun w => ?_, e.trans h2⟩
        rcases List.mem_cons.1 w with w | w
        · exact c w.symm
        · exact h1 w
      · exact .inr ⟨j + 1, by simpa using h1, by simpa using h2, by rw [e, h3, Nat.add_assoc, Nat.add_comm 1 j]⟩
theorem FN {q dd : List Pt} {p : Pt} (nd : dd.Nodup) (hm : ∀ p, p ∈ dd ↔ p ∈ q) (hq : q.length ≤ 10000000) : ∃ dd' : List Pt, Ins.bump p (dd.map (pcv q)) = dd'.map (pcv (q ++ [p])) ∧ dd'.Nodup ∧ ∀ x, x ∈ dd' ↔ x ∈ q ++ [p] := by
  have hle := Q8 q p
  rcases GQ q p dd 0 with ⟨h1, h2⟩ | ⟨j, h1, h2, h3⟩
  · have hnq : p ∉ q := fun w => h1 ((hm p).2 w)
    refine ⟨dd ++ [p], ?_, ?_, fun x => by rw [List.mem_append, List.mem_append, hm]⟩
    · unfold Ins.bump
      rw [h2, List.map_append]
      have e2 : dd.map (pcv (q ++ [p])) = dd.map (pcv q) := List.map_congr_left fun x hx => by
        unfold pcv
        rw [wZ, if_neg (fun w => h1 (by rw [w]; exact hx))]; rfl
      rw [e2]
      simp only [List.map_cons, List.map_nil, pcv]
      rw [wZ, if_pos rfl, zW hnq]; rfl
    · rw [List.nodup_append]
      exact ⟨nd, by simp, fun x hx y hy => by rw [List.mem_singleton] at hy; subst hy; exact fun w => h1 (w ▸ hx)⟩
  · rw [Nat.zero_add] at h3
    refine ⟨dd, ?_, nd, fun x => ?_⟩
    · unfold Ins.bump
      rw [h3]
      simp only
      rw [w64 (by omega) (by omega)]
      refine List.ext_getElem? fun i => ?_
      rw [List.getElem?_modify, List.getElem?_map, List.getElem?_map]
      cases ed : dd[i]? with
      | none => rfl
      | some x =>
        simp only [Option.map_some, Option.map_eq_map]
        unfold pcv
        rw [wZ]
        by_cases c : j = i
        · subst c
          rw [h2] at ed
          injection ed with ed
          subst ed
          simp
        · simp only [if_neg c]
          rw [if_neg fun w => c ?_]
          · simp
          · subst w
            obtain ⟨_, e1⟩ := List.getElem?_eq_some_iff.1 h2
            obtain ⟨_, e2⟩ := List.getElem?_eq_some_iff.1 ed
            exact (List.getElem_inj nd).1 (e1.trans e2.symm)
    · rw [hm, List.mem_append, List.mem_singleton]
      constructor
      · exact fun w => .inl w
      · rintro (w | w)
        · exact w
        · subst w; exact (hm x).1 (List.mem_of_getElem? h2)
theorem G2 {h : Hp} {n id x : Nat} {tm : List a9} {mm cc : Nat} {ts : List Nat} {cells : List a9} {p : Pt} {q : List Pt} {Q : fV × List a9 → Hp → Nat → Prop}
    (hm : nth tm mm undef = .map id) (hc : nth tm cc undef = .ptr x 0) (hts : ts.all (fun t => t.blt tm.length) = true) (hr : Row h x cells) (he : cells.take 33 = aX p.1 p.2) (l1 : p.1.length = 32) (m : Pm h id q) (hq : q.length ≤ 10000000)
    (hQ : ∀ H2, (∀ j, j ≠ id → H2 j = h j) → Pm H2 id (q ++ [p]) → Q (.normal, Ins.vD tm ts) H2 n) : Wp (Ins.qX mm cc ts tm) h n Q := by
  obtain ⟨b, dd, a, nd, hl, hmm⟩ := m
  obtain ⟨t, hr⟩ := hr
  obtain ⟨dd', e1, e2, e3⟩ := FN (p := p) nd hmm hq
  have a' := a
  unfold fR at a'
  have hb : Ins.DW (.row (.l cells) t) (.map (gG b (kI q dd)) (b + (kI q dd).length)) = some (p, b, dd.map (pcv q)) := by
    have q1 : Ins.EH (cells.take 33) = some p := by rw [he]; exact Ins.GD l1
    have q2 : b + (kI q dd).length - (gG b (kI q dd)).length = b := by rw [pY]; omega
    have q3 : Ins.oQ b (gG b (kI q dd)) = some (dd.map (pcv q)) := by
      rw [← CL]
      exact Ins.tQ _ _ fun x hx => by
        obtain ⟨y, hy, rfl⟩ := List.mem_map.1 hx
        exact hl y hy
    have q4 : (gG b (kI q dd)).length.ble (b + (kI q dd).length) = true := by rw [pY]; exact dS (by omega)
    unfold Ins.DW
    simp only [q1, q2, q3, q4]
  have hp : fR (upd h id (some (.map (gG b ((Ins.bump p (dd.map (pcv q))).map Ins.cv)) (b + (Ins.bump p (dd.map (pcv q))).length)))) id b (kI (q ++ [p]) dd') := by
    unfold fR
    rw [aP, e1, CL]
    simp only [kI, List.length_map]
  unfold Ins.qX
  simp only [hm, hc, hts, Nat.beq_refl, Bool.true_and, fW, hr, a', Option.some.injEq, exists_eq_left', hb, nZ, aM]
  refine ⟨by simp [], hQ _ (fun j hj => aG _ _ hj) ⟨b, dd', hp, e2, fun x hx => ?_, e3⟩⟩
  rcases List.mem_append.1 ((e3 x).1 hx) with w | w
  · exact hl x ((hmm x).2 w)
  · rw [List.mem_singleton] at w; subst w; exact l1
theorem Pm.clear {h : Hp} {n id : Nat} {q : List Pt} (m : Pm h id q) : ∃ h2, Wr (qF env [161] (.map id)) h n [id] [id] (a9.tup []) h2 ∧ (∀ j, j ≠ id → h2 j = h j) ∧ Pm h2 id [] := by
  obtain ⟨b, dd, a, nd, hl, hm⟩ := m
  obtain ⟨h2, w, a2, k⟩ := a.clear (n := n) (ts := []) E9
  exact ⟨h2, w, k, _, [], a2, List.nodup_nil, (fun p hp => by cases hp), (fun p => ⟨fun w => (by cases w), fun w => (by cases w)⟩)⟩
theorem Pm.new {h : Hp} {id : Nat} (e : h id = some (.map [] 0)) : Pm h id [] := ⟨0, [], e, List.nodup_nil, (fun p hp => by cases hp), (fun p => ⟨fun w => (by cases w), fun w => (by cases w)⟩)⟩
structure Spd where
  aO : List UInt8
  pn : Int
  by_ : List UInt8
def gD (s : Spd) : List a9 := aX s.aO s.pn ++ s.by_.map u8
structure Spd.Ok (s : Spd) : Prop where
  h : s.aO.length = 32
  b : s.by_.length = 32
theorem iY {s : Spd} (o : s.Ok) : (gD s).length = 65 := by simp [gD, c9 o.h, o.b]
theorem wT (s : Spd) : (gD s).all bI = true := by
  unfold gD
  rw [List.all_append, rW, List.all_map]
  simp [u8, bI]
theorem KP {s : Spd} (o : s.Ok) : (gD s).take 33 = aX s.aO s.pn := by
  unfold gD; rw [List.take_append_of_le_length (by rw [c9 o.h]; omega), List.take_of_length_le (by rw [c9 o.h]; omega)]
theorem wE {h : Hp} {n id : Nat} {s : Spd} (hr : Row h id (gD s)) (o : s.Ok) : Rd (load env 28 (.ptr id 0)) h n [id] (.agg (aX s.aO s.pn)) := by
  have := hr.agg (E := env) (n := n) (off := 0) j7 rfl (by rw [iY o]; decide)
  have e : ((gD s).drop 0).take 33 = aX s.aO s.pn := by unfold gD; rw [List.drop_zero, List.take_append_of_le_length (by rw [c9 o.h]; omega), List.take_of_length_le (by rw [c9 o.h]; omega)]
  exact e ▸ this
theorem PW {h : Hp} {n id : Nat} {s : Spd} (hr : Row h id (gD s)) (o : s.Ok) : Rd (load env 25 (.ptr id 33)) h n [id] (.agg (s.by_.map u8)) := by
  have := hr.agg (E := env) (n := n) (off := 33) kH rfl (by rw [iY o]; decide)
  have e : ((gD s).drop 33).take 32 = s.by_.map u8 := by unfold gD; rw [← c9 (pn := s.pn) o.h, List.drop_left, List.take_of_length_le (by simp [o.b])]
  exact e ▸ this
def SL (h : Hp) (a b : Nat) (v : a9) (ss : List Spd) : Prop := ∃ cells, Lst h 48 65 v ss.length cells ∧ (∀ (j : Nat) (hj : j < ss.length), (cells.drop (j * 65)).take 65 = gD ss[j] ∧ ss[j].Ok) ∧ ∀ j, bB v = some j → a ≤ j ∧ j < b
theorem SL.aS {h h' : Hp} {a b : Nat} {v : a9} {ss : List Spd} (l : SL h a b v ss) (hk : ∀ j, a ≤ j → j < b → h' j = h j) : SL h' a b v ss := by
  obtain ⟨cells, c1, c2, c3⟩ := l
  exact ⟨cells, c1.aS fun j q => hk j (c3 j q).1 (c3 j q).2, c2, c3⟩
theorem u44 : und env 44 = M.pure (.slice 48) := rfl
theorem ai9 : sizeOf env 48 = M.pure 65 := rfl
theorem SL.len {h : Hp} {a b : Nat} {v : a9} {ss : List Spd} (l : SL h a b v ss) {ts : List TypeId} : dD env (44 :: ts) v = M.pure (.int .i64 (ss.length : Nat)) := by
  obtain ⟨cells, c1, c2, c3⟩ := l
  exact c1.rds.dD u44
theorem SL.idx {h : Hp} {a b : Nat} {v : a9} {ss : List Spd} (l : SL h a b v ss) {i : Nat} (hi : i < ss.length) {h' : Hp} {n' : Nat} : Rd (indexAddr env 44 v (.int .i64 ((i : Nat) : Int))) h' n' [] (dB (i * 65) v) := by
  obtain ⟨cells, c1, c2, c3⟩ := l
  exact c1.rds.idx u44 ai9 rfl hi
theorem SL.kind {h : Hp} {a b : Nat} {v : a9} {ss : List Spd} (l : SL h a b v ss) : v.cells = [v] ∧ bI v = true ∧ dV v = false := by
  obtain ⟨cells, c1, c2, c3⟩ := l
  exact c1.rds.kind
theorem VL.kind {h : Hp} {a b : Nat} {v : a9} {ss : List Ver} (l : VL h a b v ss) : v.cells = [v] ∧ bI v = true ∧ dV v = false := by
  obtain ⟨cells, c1, c2, c3⟩ := l
  exact c1.rds.kind
theorem SL.all {h : Hp} {n a b : Nat} {v : a9} {ss : List Spd} (l : SL h a b v ss) {i : Nat} (hi : i < ss.length) : ss[i].Ok ∧ Rd (load env 48 (dB (i * 65) v)) h n (rid v) (.agg (gD ss[i])) := by
  obtain ⟨cells, c1, c2, c3⟩ := l
  obtain ⟨e, o⟩ := c2 i hi
  refine ⟨o, ?_⟩
  have hl : cells.length = ss.length * 65 := c1.rds.length
  have := c1.rds.agg (E := env) (n := n) (k := i * 65) vL rfl (by decide) (by show i * 65 + 65 ≤ _; omega)
  have e' : (cells.drop (i * 65)).take 65 = gD ss[i] := e
  exact e' ▸ this
structure App where
  bR : Int
  block : List UInt8
  made : List Ver
  cG : List Spd
  fU : Int
  left : Int
def cX (A : App) (mv sv : a9) : List a9 := .int .i64 A.bR :: (A.block.map u8 ++ [mv, sv, .int .i64 A.fU, .int .i64 A.left])
structure j6 (h : Hp) (a b : Nat) (A : App) (mv sv : a9) : Prop where
  m : VL h a b mv A.made
  s : SL h a b sv A.cG
  b : A.block.length = 32
  ml : A.made.length ≤ 1000000
  sl : A.cG.length ≤ 1000000
theorem j6.aS {h h' : Hp} {a b : Nat} {A : App} {mv sv : a9} (l : j6 h a b A mv sv) (hk : ∀ j, a ≤ j → j < b → h' j = h j) : j6 h' a b A mv sv := ⟨l.m.aS hk, l.s.aS hk, l.b, l.ml, l.sl⟩
theorem yX {A : App} {mv sv : a9} (hb : A.block.length = 32) : (cX A mv sv).length = 37 := by simp [cX, hb]
theorem tZ {A : App} {mv sv : a9} (hb : A.block.length = 32) (k : Nat) : (cX A mv sv)[33 + k]? = [mv, sv, .int .i64 A.fU, .int .i64 A.left][k]? := by
  unfold cX
  rw [show 33 + k = 32 + k + 1 by omega, List.getElem?_cons_succ, List.getElem?_append_right (by simp [hb]), List.length_map, hb]
  congr 1; omega
theorem uT {h : Hp} {n id : Nat} {A : App} {mv sv : a9} (hr : Row h id (cX A mv sv)) : Rd (load env 3 (.ptr id 0)) h n [id] (.int .i64 A.bR) := hr.one rfl ti3 rfl
theorem BX {h : Hp} {n id : Nat} {A : App} {mv sv : a9} (hr : Row h id (cX A mv sv)) (hb : A.block.length = 32) : Rd (load env 43 (.ptr id 33)) h n [id] mv := hr.one (tZ hb 0) vM rfl
theorem BW {h : Hp} {n id : Nat} {A : App} {mv sv : a9} (hr : Row h id (cX A mv sv)) (hb : A.block.length = 32) : Rd (load env 44 (.ptr id 34)) h n [id] sv := hr.one (tZ hb 1) PV rfl
theorem BZ {h : Hp} {n id : Nat} {A : App} {mv sv : a9} (hr : Row h id (cX A mv sv)) (hb : A.block.length = 32) : Rd (load env 2 (.ptr id 35)) h n [id] (.int .i64 A.fU) := hr.one (tZ hb 2) ti2 rfl
theorem BY {h : Hp} {n id : Nat} {A : App} {mv sv : a9} (hr : Row h id (cX A mv sv)) (hb : A.block.length = 32) : Rd (load env 2 (.ptr id 36)) h n [id] (.int .i64 A.left) := hr.one (tZ hb 3) ti2 rfl
theorem yV {h : Hp} {n id : Nat} {A : App} {mv sv : a9} (hr : Row h id (cX A mv sv)) (hb : A.block.length = 32) : Rd (load env 46 (.ptr id 0)) h n [id] (.agg (cX A mv sv)) := hr.gT AT rfl (yX hb)
theorem S7 {h : Hp} {n id : Nat} {A : App} {mv sv : a9} (hr : Row h id (cX A mv sv)) (hb : A.block.length = 32) : Rd (load env 25 (.ptr id 1)) h n [id] (.agg (A.block.map u8)) := by
  have := hr.agg (E := env) (n := n) (off := 1) kH rfl (by rw [yX hb]; decide)
  have e : ((cX A mv sv).drop 1).take 32 = A.block.map u8 := by unfold cX; rw [List.drop_succ_cons, List.drop_zero, List.take_append_of_le_length (by simp [hb]), List.take_of_length_le (by simp [hb])]
  exact e ▸ this
def nD (n : Int) : Bool := decide (0 ≤ n) && decide (n ≤ 2100000000000000)
def wJ (n : Int) : Bool := decide (0 ≤ n) && decide (n ≤ 1048576)
theorem f99 (z : Int) (h : Hp) (n : Nat) : Wp (bM env (aY env) 99 [.int .i64 z]) h n fun v' h' n' => v' = .bool (wJ z) ∧ h' = h ∧ n' = n := by
  refine aZ aw8 am1 ?_
  unfold wJ
  by_cases c : 0 ≤ z
  · simp only [QY, Try.f99, Option.getD_some, List.replicate, fgr, bor, aT, Nat.reduceSub, ge_iff_le, c, gE]
  · simp only [QY, Try.f99, Option.getD_some, List.replicate, fgr, bor, aT, Nat.reduceSub, ge_iff_le, c, gE]
theorem f100 (z : Int) (h : Hp) (n : Nat) : Wp (bM env (aY env) 100 [.int .i64 z]) h n fun v' h' n' => v' = .bool (nD z) ∧ h' = h ∧ n' = n := by
  refine aZ af1 aa5 ?_
  unfold nD
  by_cases c : 0 ≤ z
  · simp only [GV, Try.f100, Option.getD_some, List.replicate, fgr, bor, aT, Nat.reduceSub, ge_iff_le, c, gE]
  · simp only [GV, Try.f100, Option.getD_some, List.replicate, fgr, bor, aT, Nat.reduceSub, ge_iff_le, c, gE]
def ptV (v : Ver) : Pt := (v.aO, v.pn)
def ptS (s : Spd) : Pt := (s.aO, s.pn)
def rG (z : Int) (v : Ver) : Bool := decide (v.made = z) && decide (v.cV = 0) && decide (v.by_ = z32) && nD v.value && decide (v.aL.length ≤ 2000)
def IH (z : Int) (L : List Ver) (i : Nat) : Bool := match L[i]? with
  | some v => rG z v && decide (l9 ((L.take (i + 1)).map ptV) (ptV v) = 1)
  | none => true
def MH (L : List Spd) (i : Nat) : Bool := match L[i]? with
  | some v => decide (l9 ((L.take (i + 1)).map ptS) (ptS v) = 1)
  | none => true
theorem al3 : gQ env.rV 113 4 Ins.AW.c = some Ins.tY := Ins.sJ Ins.AW _ rfl
theorem YQ : gQ env.rV 113 12 Ins.sV.c = some Ins.rA := by
  show gQ [Ins.sV] 113 12 _ = _
  exact Ins.sJ Ins.sV _ rfl
end Go.Am.Ytlgebaofkolkoaa
set_option linter.unusedSimpArgs false
set_option linter.unusedVariables false
set_option linter.defProp false
set_option maxRecDepth 10000
namespace Go.Am.Ytlgebaofkolkoaa
open Go Go.Am Go.Proofs
theorem IJ (Q : fC) (ks : List Kf) (Y mv sv : a9) (c id a b n0 : Nat) (A : App) (hid : n0 ≤ id) (hc : c < n0) (hb : b ≤ n0)
    (P : Nat → Hp → Prop) (R : Hp → Prop)
    (hP : ∀ k h, P k h → Row h c (cX A mv sv) ∧ j6 h a b A mv sv)
    (hst : ∀ k h h', P k h → (∀ j, j < n0 → h' j = h j) → P k h')
    (hsr : ∀ h h', R h → (∀ j, j < n0 → h' j = h j) → R h')
    (hY : ∀ (k : Nat) (hk : k < A.made.length) (w : a9) (h : Hp) (n : Nat), P k h → n0 ≤ n → bG h n → w = .bool (IH A.bR A.made k) → Wp (kG env (aY env) Y [ptA (ptV A.made[k]), w]) h n fun v' h' n' => ((yes true v' ∧ P (k + 1) h') ∨ (yes false v' ∧ R h')) ∧ ∀ j, n0 ≤ j → j < n → h' j = h j)
    (hT : ∀ (h : Hp) (n : Nat) (x5 x6 x8 x14 x63 x67 x68 x69 x70 x89 : a9), P A.made.length h → Pm h id (A.made.map ptV) → id < n → bG h n →
      eR env 113 none Q ks (.exit 0) (Y :: .ptr c 0 :: a9.aA :: .map id :: a9.aA :: x5 :: x6 :: a9.aA :: x8 :: a9.aA :: a9.aA :: mv :: .int .i64 (A.made.length : Nat) :: .int .i64 (A.made.length : Nat) :: x14 :: a9.aA :: a9.aA :: a9.aA :: a9.aA :: a9.aA :: a9.aA :: a9.aA :: a9.aA :: a9.aA :: a9.aA :: a9.aA :: a9.aA :: a9.aA :: a9.aA :: a9.aA :: a9.aA :: a9.aA :: a9.aA :: a9.aA :: a9.aA :: a9.aA :: a9.aA :: a9.aA :: a9.aA :: a9.aA :: a9.aA :: a9.aA :: a9.aA :: a9.aA :: a9.aA :: a9.aA :: a9.aA :: a9.aA :: a9.aA :: a9.aA :: a9.aA :: a9.aA :: a9.aA :: a9.aA :: a9.aA :: a9.aA :: a9.aA :: a9.aA :: a9.aA :: a9.aA :: a9.aA :: a9.aA :: a9.aA :: x63 :: a9.aA :: a9.aA :: a9.aA :: x67 :: x68 :: x69 :: x70 :: a9.aA :: a9.aA :: a9.aA :: a9.aA :: a9.aA :: a9.aA :: a9.aA :: a9.aA :: a9.aA :: a9.aA :: a9.aA :: a9.aA :: a9.aA :: a9.aA :: a9.aA :: a9.aA :: a9.aA :: a9.aA :: x89 :: a9.aA :: []) h n)
    (hR : ∀ (h : Hp) (n : Nat) (tm : List a9), R h → eR env 113 none Q ks .ret tm h n) :
    ∀ (m i : Nat) (h : Hp) (n : Nat) (x5 x6 x8 x14 x63 x67 x68 x69 x70 x89 : a9), i + m = A.made.length → P i h → Pm h id ((A.made.take i).map ptV) → id < n → bG h n →
      Run env 113 none Q (.loop BC) ks (Y :: .ptr c 0 :: a9.aA :: .map id :: a9.aA :: x5 :: x6 :: a9.aA :: x8 :: a9.aA :: a9.aA :: mv :: .int .i64 (A.made.length : Nat) :: .int .i64 (i : Nat) :: x14 :: a9.aA :: a9.aA :: a9.aA :: a9.aA :: a9.aA :: a9.aA :: a9.aA :: a9.aA :: a9.aA :: a9.aA :: a9.aA :: a9.aA :: a9.aA :: a9.aA :: a9.aA :: a9.aA :: a9.aA :: a9.aA :: a9.aA :: a9.aA :: a9.aA :: a9.aA :: a9.aA :: a9.aA :: a9.aA :: a9.aA :: a9.aA :: a9.aA :: a9.aA :: a9.aA :: a9.aA :: a9.aA :: a9.aA :: a9.aA :: a9.aA :: a9.aA :: a9.aA :: a9.aA :: a9.aA :: a9.aA :: a9.aA :: a9.aA :: a9.aA :: a9.aA :: a9.aA :: a9.aA :: a9.aA :: a9.aA :: x63 :: a9.aA :: a9.aA :: a9.aA :: x67 :: x68 :: x69 :: x70 :: a9.aA :: a9.aA :: a9.aA :: a9.aA :: a9.aA :: a9.aA :: a9.aA :: a9.aA :: a9.aA :: a9.aA :: a9.aA :: a9.aA :: a9.aA :: a9.aA :: a9.aA :: a9.aA :: a9.aA :: a9.aA :: x89 :: a9.aA :: []) h n := by
  intro m
  induction m with
  | zero =>
    intro i h n x5 x6 x8 x14 x63 x67 x68 x69 x70 x89 hm hp hmp hin hf
    have : i = A.made.length := by omega
    subst this
    rw [cY]
    have hcc : ¬ (((A.made.length : Nat) : Int) < ((A.made.length : Nat) : Int)) := by omega
    simp only [BC, c8, Try.f113, Option.getD_some, fgr, bor, List.getD_cons_zero, hcc, gE]
    rw [List.take_length] at hmp
    exact hT h n _ _ _ _ _ _ _ _ _ _ hp hmp hin hf
  | succ m ih =>
    intro i h n x5 x6 x8 x14 x63 x67 x68 x69 x70 x89 hm hp hmp hin hf
    obtain ⟨hrc, ha⟩ := hP i h hp
    have hil : i < A.made.length := by omega
    have hcc : (((i : Nat) : Int) < ((A.made.length : Nat) : Int)) := by omega
    have w1 : IntKind.i64.wrap (((i : Nat) : Int) + 1) = ((i + 1 : Nat) : Int) := by rw [w64 (by omega) (by have := ha.ml; omega)]; omega
    obtain ⟨sw, va⟩ := ha.m.at_ hil
    have hge : A.made[i]? = some A.made[i] := List.getElem?_eq_getElem hil
    have hmay : IH A.bR A.made i = (rG A.bR A.made[i] && decide (l9 ((A.made.take (i + 1)).map ptV) (ptV A.made[i]) = 1)) := by unfold IH; rw [hge]
    have htk : (A.made.take (i + 1)).map ptV = (A.made.take i).map ptV ++ [ptV A.made[i]] := by rw [kL hil, List.map_append]; rfl
    have hYi := hY i hil
    rw [hmay] at hYi
    generalize A.made[i] = v at *
    rw [cY]
    simp only [BC, c8, Try.f113, Option.getD_some, fgr, bor, List.getD_cons_zero, hcc, gE]
    rw [aI (ha.m.idx hil)]
    simp only [gE]
    rw [aI (va.all n)]
    simp only [gE]
    rw [cD eB rfl]
    simp only [cel, gE]
    have kd := va.s.kind
    refine dM (v := .agg (aK v sw)) eB rfl (bD va.ok.h va.ok.b) (cS kd.2.1) hf fun H1 r1 p1 f1 => ?_
    replace r1 : Row H1 n (aK v sw) := r1
    have m1 : Pm H1 id ((A.made.take i).map ptV) := hmp.aS (p1 id (by omega))
    have hlen : ((A.made.take i).map ptV).length ≤ 1000000 := by rw [List.length_map, List.length_take]; have := ha.ml; omega
    simp only [bP, fgr, bX, aE]
    refine zS (act := Ins.tY) al3 ?_
    unfold Ins.tY
    refine G2 (p := ptV v) rfl rfl rfl r1 (wO va.ok.h) va.ok.h m1 (by omega) fun H3 k3 m3 => ?_
    have e3 : ∀ j, j < n0 → H3 j = h j := fun j hj => by rw [k3 j (by omega), p1 j (by omega)]
    have p3 : P i H3 := hst i h H3 hp e3
    have r3 : Row H3 n (aK v sw) := r1.aS (k3 n (by omega))
    have f3 : bG H3 (n + 1) := fun j hj => by rw [k3 j (by omega)]; exact f1 j hj
    have bs3 : Bytes H3 sw v.aL := va.s.aS fun j q => e3 j (by have := va.sn j q; omega)
    obtain ⟨hrc3, ha3⟩ := hP i H3 p3
    rw [← htk] at m3
    simp only [tyr, aQ, Ins.vD, gE]
    rw [aI (gV r3 va.ok)]
    simp only [tyr, aQ, gE]
    rw [aI (uT hrc3)]
    by_cases c1 : v.made = A.bR
    rotate_left
    · have hfit : (rG A.bR v && decide (l9 ((A.made.take (i + 1)).map ptV) (ptV v) = 1)) = false := by simp [rG, c1]
      simp only [fgr, bor, aT, c1, gE]
      refine cP ⟨rfl, ?_⟩
      simp only [tyr, aQ, Nat.reduceAdd, gE]
      rw [bJ (jN r3 va.ok)]
      simp only [aT, Nat.reduceAdd, gE]
      refine eE f3 (hYi (.bool false) H3 (n + 1) p3 (by omega) f3 (by rw [hfit])) fun v4 h4 n4 rr ww hn4 f4 ⟨hh, kk⟩ => ?_
      rcases hh with ⟨e4 | e4, hp4⟩ | ⟨e4 | e4, hr4⟩
      · subst e4
        simp only [fgr, bor, bS, unOp, Nat.reduceAdd, gE]
        refine ⟨(by (try simp (disch := first | assumption | omega) only [dW, gF]); repeat' (first | rfl | exact (Bool.or_eq_true _ _).mpr (.inr rfl) | refine (Bool.and_eq_true _ _).mpr ⟨?_, ?_⟩)), ?_⟩
        simp only [w1]
        exact ih (i + 1) h4 n4 _ _ _ _ _ _ _ _ _ _ (by omega) hp4 (m3.aS (kk id hid (by omega))) (by omega) f4
      · subst e4
        simp only [fgr, bor, bS, unOp, Nat.reduceAdd, gE]
        refine ⟨(by (try simp (disch := first | assumption | omega) only [dW, gF]); repeat' (first | rfl | exact (Bool.or_eq_true _ _).mpr (.inr rfl) | refine (Bool.and_eq_true _ _).mpr ⟨?_, ?_⟩)), ?_⟩
        simp only [w1]
        exact ih (i + 1) h4 n4 _ _ _ _ _ _ _ _ _ _ (by omega) hp4 (m3.aS (kk id hid (by omega))) (by omega) f4
      · subst e4
        simp only [fgr, unOp, Nat.reduceAdd, gE]
        exact ⟨(by (try simp (disch := first | assumption | omega) only [dW, gF]); repeat' (first | rfl | exact (Bool.or_eq_true _ _).mpr (.inr rfl) | refine (Bool.and_eq_true _ _).mpr ⟨?_, ?_⟩)), hR h4 n4 _ hr4⟩
      · subst e4
        simp only [fgr, unOp, Nat.reduceAdd, gE]
        exact ⟨(by (try simp (disch := first | assumption | omega) only [dW, gF]); repeat' (first | rfl | exact (Bool.or_eq_true _ _).mpr (.inr rfl) | refine (Bool.and_eq_true _ _).mpr ⟨?_, ?_⟩)), hR h4 n4 _ hr4⟩
    simp only [tyr, bor, aQ, c1, gE]
    rw [aI (eP r3 va.ok)]
    by_cases c2 : v.cV = 0
    rotate_left
    · have hfit : (rG A.bR v && decide (l9 ((A.made.take (i + 1)).map ptV) (ptV v) = 1)) = false := by simp [rG, c2]
      simp only [fgr, bor, aT, c2, gE]
      refine cP ⟨rfl, ?_⟩
      simp only [tyr, aQ, Nat.reduceAdd, gE]
      rw [bJ (jN r3 va.ok)]
      simp only [aT, Nat.reduceAdd, gE]
      refine eE f3 (hYi (.bool false) H3 (n + 1) p3 (by omega) f3 (by rw [hfit])) fun v4 h4 n4 rr ww hn4 f4 ⟨hh, kk⟩ => ?_
      rcases hh with ⟨e4 | e4, hp4⟩ | ⟨e4 | e4, hr4⟩
      · subst e4
        simp only [fgr, bor, bS, unOp, Nat.reduceAdd, gE]
        refine ⟨(by (try simp (disch := first | assumption | omega) only [dW, gF]); repeat' (first | rfl | exact (Bool.or_eq_true _ _).mpr (.inr rfl) | refine (Bool.and_eq_true _ _).mpr ⟨?_, ?_⟩)), ?_⟩
        simp only [w1]
        exact ih (i + 1) h4 n4 _ _ _ _ _ _ _ _ _ _ (by omega) hp4 (m3.aS (kk id hid (by omega))) (by omega) f4
      · subst e4
        simp only [fgr, bor, bS, unOp, Nat.reduceAdd, gE]
        refine ⟨(by (try simp (disch := first | assumption | omega) only [dW, gF]); repeat' (first | rfl | exact (Bool.or_eq_true _ _).mpr (.inr rfl) | refine (Bool.and_eq_true _ _).mpr ⟨?_, ?_⟩)), ?_⟩
        simp only [w1]
        exact ih (i + 1) h4 n4 _ _ _ _ _ _ _ _ _ _ (by omega) hp4 (m3.aS (kk id hid (by omega))) (by omega) f4
      · subst e4
        simp only [fgr, unOp, Nat.reduceAdd, gE]
        exact ⟨(by (try simp (disch := first | assumption | omega) only [dW, gF]); repeat' (first | rfl | exact (Bool.or_eq_true _ _).mpr (.inr rfl) | refine (Bool.and_eq_true _ _).mpr ⟨?_, ?_⟩)), hR h4 n4 _ hr4⟩
      · subst e4
        simp only [fgr, unOp, Nat.reduceAdd, gE]
        exact ⟨(by (try simp (disch := first | assumption | omega) only [dW, gF]); repeat' (first | rfl | exact (Bool.or_eq_true _ _).mpr (.inr rfl) | refine (Bool.and_eq_true _ _).mpr ⟨?_, ?_⟩)), hR h4 n4 _ hr4⟩
    simp only [tyr, bor, aT, aQ, c2, gE]
    rw [aI (UL r3 va.ok)]
    have heq := ag4 v.by_ z32 va.ok.b rfl
    by_cases c3 : v.by_ = z32
    rotate_left
    · have hfit : (rG A.bR v && decide (l9 ((A.made.take (i + 1)).map ptV) (ptV v) = 1)) = false := by simp [rG, c3]
      rw [decide_eq_false c3] at heq
      simp only [fgr, aT, b25, heq, gE]
      refine cP ⟨rfl, ?_⟩
      simp only [tyr, aQ, Nat.reduceAdd, gE]
      rw [bJ (jN r3 va.ok)]
      simp only [aT, Nat.reduceAdd, gE]
      refine eE f3 (hYi (.bool false) H3 (n + 1) p3 (by omega) f3 (by rw [hfit])) fun v4 h4 n4 rr ww hn4 f4 ⟨hh, kk⟩ => ?_
      rcases hh with ⟨e4 | e4, hp4⟩ | ⟨e4 | e4, hr4⟩
      · subst e4
        simp only [fgr, bor, bS, unOp, Nat.reduceAdd, gE]
        refine ⟨(by (try simp (disch := first | assumption | omega) only [dW, gF]); repeat' (first | rfl | exact (Bool.or_eq_true _ _).mpr (.inr rfl) | refine (Bool.and_eq_true _ _).mpr ⟨?_, ?_⟩)), ?_⟩
        simp only [w1]
        exact ih (i + 1) h4 n4 _ _ _ _ _ _ _ _ _ _ (by omega) hp4 (m3.aS (kk id hid (by omega))) (by omega) f4
      · subst e4
        simp only [fgr, bor, bS, unOp, Nat.reduceAdd, gE]
        refine ⟨(by (try simp (disch := first | assumption | omega) only [dW, gF]); repeat' (first | rfl | exact (Bool.or_eq_true _ _).mpr (.inr rfl) | refine (Bool.and_eq_true _ _).mpr ⟨?_, ?_⟩)), ?_⟩
        simp only [w1]
        exact ih (i + 1) h4 n4 _ _ _ _ _ _ _ _ _ _ (by omega) hp4 (m3.aS (kk id hid (by omega))) (by omega) f4
      · subst e4
        simp only [fgr, unOp, Nat.reduceAdd, gE]
        exact ⟨(by (try simp (disch := first | assumption | omega) only [dW, gF]); repeat' (first | rfl | exact (Bool.or_eq_true _ _).mpr (.inr rfl) | refine (Bool.and_eq_true _ _).mpr ⟨?_, ?_⟩)), hR h4 n4 _ hr4⟩
      · subst e4
        simp only [fgr, unOp, Nat.reduceAdd, gE]
        exact ⟨(by (try simp (disch := first | assumption | omega) only [dW, gF]); repeat' (first | rfl | exact (Bool.or_eq_true _ _).mpr (.inr rfl) | refine (Bool.and_eq_true _ _).mpr ⟨?_, ?_⟩)), hR h4 n4 _ hr4⟩
    rw [decide_eq_true c3] at heq
    simp only [tyr, aT, aQ, b25, heq, gE]
    rw [aI (nI r3 va.ok)]
    simp only [gE]
    refine dA (f100 v.value H3 (n + 1)) ?_
    cases c4 : nD v.value with
    | false =>
      have hfit : (rG A.bR v && decide (l9 ((A.made.take (i + 1)).map ptV) (ptV v) = 1)) = false := by simp [rG, c4]
      simp only [fgr, aT, gE]
      refine cP ⟨rfl, ?_⟩
      simp only [tyr, aQ, Nat.reduceAdd, gE]
      rw [bJ (jN r3 va.ok)]
      simp only [aT, Nat.reduceAdd, gE]
      refine eE f3 (hYi (.bool false) H3 (n + 1) p3 (by omega) f3 (by rw [hfit])) fun v4 h4 n4 rr ww hn4 f4 ⟨hh, kk⟩ => ?_
      rcases hh with ⟨e4 | e4, hp4⟩ | ⟨e4 | e4, hr4⟩
      · subst e4
        simp only [fgr, bor, bS, unOp, Nat.reduceAdd, gE]
        refine ⟨(by (try simp (disch := first | assumption | omega) only [dW, gF]); repeat' (first | rfl | exact (Bool.or_eq_true _ _).mpr (.inr rfl) | refine (Bool.and_eq_true _ _).mpr ⟨?_, ?_⟩)), ?_⟩
        simp only [w1]
        exact ih (i + 1) h4 n4 _ _ _ _ _ _ _ _ _ _ (by omega) hp4 (m3.aS (kk id hid (by omega))) (by omega) f4
      · subst e4
        simp only [fgr, bor, bS, unOp, Nat.reduceAdd, gE]
        refine ⟨(by (try simp (disch := first | assumption | omega) only [dW, gF]); repeat' (first | rfl | exact (Bool.or_eq_true _ _).mpr (.inr rfl) | refine (Bool.and_eq_true _ _).mpr ⟨?_, ?_⟩)), ?_⟩
        simp only [w1]
        exact ih (i + 1) h4 n4 _ _ _ _ _ _ _ _ _ _ (by omega) hp4 (m3.aS (kk id hid (by omega))) (by omega) f4
      · subst e4
        simp only [fgr, unOp, Nat.reduceAdd, gE]
        exact ⟨(by (try simp (disch := first | assumption | omega) only [dW, gF]); repeat' (first | rfl | exact (Bool.or_eq_true _ _).mpr (.inr rfl) | refine (Bool.and_eq_true _ _).mpr ⟨?_, ?_⟩)), hR h4 n4 _ hr4⟩
      · subst e4
        simp only [fgr, unOp, Nat.reduceAdd, gE]
        exact ⟨(by (try simp (disch := first | assumption | omega) only [dW, gF]); repeat' (first | rfl | exact (Bool.or_eq_true _ _).mpr (.inr rfl) | refine (Bool.and_eq_true _ _).mpr ⟨?_, ?_⟩)), hR h4 n4 _ hr4⟩
    | true =>
    simp only [tyr, aT, aQ, gE]
    rw [aI (kN r3 va.ok)]
    simp only [fgr, builtin, bor, aT, bs3.dD t29, gE]
    by_cases c5 : (v.aL.length : Nat) ≤ 2000
    rotate_left
    · have hfit : (rG A.bR v && decide (l9 ((A.made.take (i + 1)).map ptV) (ptV v) = 1)) = false := by simp [rG]; omega
      have c5' : ¬ (((v.aL.length : Nat) : Int) ≤ 2000) := by omega
      simp only [decide_false, c5']
      refine cP ⟨rfl, ?_⟩
      simp only [tyr, aQ, Nat.reduceAdd, gE]
      rw [bJ (jN r3 va.ok)]
      simp only [aT, Nat.reduceAdd, gE]
      refine eE f3 (hYi (.bool false) H3 (n + 1) p3 (by omega) f3 (by rw [hfit])) fun v4 h4 n4 rr ww hn4 f4 ⟨hh, kk⟩ => ?_
      rcases hh with ⟨e4 | e4, hp4⟩ | ⟨e4 | e4, hr4⟩
      · subst e4
        simp only [fgr, bor, bS, unOp, Nat.reduceAdd, gE]
        refine ⟨(by (try simp (disch := first | assumption | omega) only [dW, gF]); repeat' (first | rfl | exact (Bool.or_eq_true _ _).mpr (.inr rfl) | refine (Bool.and_eq_true _ _).mpr ⟨?_, ?_⟩)), ?_⟩
        simp only [w1]
        exact ih (i + 1) h4 n4 _ _ _ _ _ _ _ _ _ _ (by omega) hp4 (m3.aS (kk id hid (by omega))) (by omega) f4
      · subst e4
        simp only [fgr, bor, bS, unOp, Nat.reduceAdd, gE]
        refine ⟨(by (try simp (disch := first | assumption | omega) only [dW, gF]); repeat' (first | rfl | exact (Bool.or_eq_true _ _).mpr (.inr rfl) | refine (Bool.and_eq_true _ _).mpr ⟨?_, ?_⟩)), ?_⟩
        simp only [w1]
        exact ih (i + 1) h4 n4 _ _ _ _ _ _ _ _ _ _ (by omega) hp4 (m3.aS (kk id hid (by omega))) (by omega) f4
      · subst e4
        simp only [fgr, unOp, Nat.reduceAdd, gE]
        exact ⟨(by (try simp (disch := first | assumption | omega) only [dW, gF]); repeat' (first | rfl | exact (Bool.or_eq_true _ _).mpr (.inr rfl) | refine (Bool.and_eq_true _ _).mpr ⟨?_, ?_⟩)), hR h4 n4 _ hr4⟩
      · subst e4
        simp only [fgr, unOp, Nat.reduceAdd, gE]
        exact ⟨(by (try simp (disch := first | assumption | omega) only [dW, gF]); repeat' (first | rfl | exact (Bool.or_eq_true _ _).mpr (.inr rfl) | refine (Bool.and_eq_true _ _).mpr ⟨?_, ?_⟩)), hR h4 n4 _ hr4⟩
    have c5' : (((v.aL.length : Nat) : Int) ≤ 2000) := by omega
    have hfit : rG A.bR v = true := by simp [rG, c1, c2, c3, c4, c5]
    simp only [decide_true, c5']
    refine cP ⟨rfl, ?_⟩
    simp only [tyr, aQ, Nat.reduceAdd, gE]
    rw [bJ (jN r3 va.ok)]
    simp only [tyr, aQ, Nat.reduceAdd, gE]
    rw [bJ (jN r3 va.ok)]
    have hlk : Rd (j9 env 161 (.map id) (.agg (aX v.aO v.pn)) false) H3 (n + 1) [id] _ := m3.lookup (p := ptV v) va.ok.h
    simp only [Nat.reduceAdd, gE]
    rw [bJ hlk]
    have ecnt : decide (((l9 ((A.made.take (i + 1)).map ptV) (ptV v) : Nat) : Int) = 1) = decide (l9 ((A.made.take (i + 1)).map ptV) (ptV v) = 1) := by
      rw [decide_eq_decide]; omega
    simp only [bor, aT, Nat.reduceAdd, ecnt, gE]
    refine eE f3 (hYi (.bool (decide (l9 ((A.made.take (i + 1)).map ptV) (ptV v) = 1))) H3 (n + 1) p3 (by omega) f3 (by rw [hfit, Bool.true_and])) fun v4 h4 n4 rr ww hn4 f4 ⟨hh, kk⟩ => ?_
    rcases hh with ⟨e4 | e4, hp4⟩ | ⟨e4 | e4, hr4⟩
    · subst e4
      simp only [fgr, bor, bS, unOp, Nat.reduceAdd, gE]
      refine ⟨(by (try simp (disch := first | assumption | omega) only [dW, gF]); repeat' (first | rfl | exact (Bool.or_eq_true _ _).mpr (.inr rfl) | refine (Bool.and_eq_true _ _).mpr ⟨?_, ?_⟩)), ?_⟩
      simp only [w1]
      exact ih (i + 1) h4 n4 _ _ _ _ _ _ _ _ _ _ (by omega) hp4 (m3.aS (kk id hid (by omega))) (by omega) f4
    · subst e4
      simp only [fgr, bor, bS, unOp, Nat.reduceAdd, gE]
      refine ⟨(by (try simp (disch := first | assumption | omega) only [dW, gF]); repeat' (first | rfl | exact (Bool.or_eq_true _ _).mpr (.inr rfl) | refine (Bool.and_eq_true _ _).mpr ⟨?_, ?_⟩)), ?_⟩
      simp only [w1]
      exact ih (i + 1) h4 n4 _ _ _ _ _ _ _ _ _ _ (by omega) hp4 (m3.aS (kk id hid (by omega))) (by omega) f4
    · subst e4
      simp only [fgr, unOp, Nat.reduceAdd, gE]
      exact ⟨(by (try simp (disch := first | assumption | omega) only [dW, gF]); repeat' (first | rfl | exact (Bool.or_eq_true _ _).mpr (.inr rfl) | refine (Bool.and_eq_true _ _).mpr ⟨?_, ?_⟩)), hR h4 n4 _ hr4⟩
    · subst e4
      simp only [fgr, unOp, Nat.reduceAdd, gE]
      exact ⟨(by (try simp (disch := first | assumption | omega) only [dW, gF]); repeat' (first | rfl | exact (Bool.or_eq_true _ _).mpr (.inr rfl) | refine (Bool.and_eq_true _ _).mpr ⟨?_, ?_⟩)), hR h4 n4 _ hr4⟩
theorem II (Q : fC) (ks : List Kf) (Y mv sv : a9) (c id a b n0 : Nat) (A : App) (hid : n0 ≤ id) (hc : c < n0) (hb : b ≤ n0)
    (P : Nat → Hp → Prop) (R : Hp → Prop)
    (hP : ∀ k h, P k h → Row h c (cX A mv sv) ∧ j6 h a b A mv sv)
    (hst : ∀ k h h', P k h → (∀ j, j < n0 → h' j = h j) → P k h')
    (hY : ∀ (k : Nat) (hk : k < A.cG.length) (w : a9) (h : Hp) (n : Nat), P (A.made.length + k) h → n0 ≤ n → bG h n → w = .bool (MH A.cG k) → Wp (kG env (aY env) Y [ptA (ptS A.cG[k]), w]) h n fun v' h' n' => ((yes true v' ∧ P (A.made.length + k + 1) h') ∨ (yes false v' ∧ R h')) ∧ ∀ j, n0 ≤ j → j < n → h' j = h j)
    (hT : ∀ (h : Hp) (n : Nat) (tm : List a9), P (A.made.length + A.cG.length) h → eR env 113 none Q ks (.exit 2) tm h n)
    (hR : ∀ (h : Hp) (n : Nat) (tm : List a9), R h → eR env 113 none Q ks .ret tm h n) :
    ∀ (m i : Nat) (h : Hp) (n : Nat) (x1 x5 x6 x8 x11 x12 x13 x14 x63 x70 x89 : a9), i + m = A.cG.length → P (A.made.length + i) h → Pm h id ((A.cG.take i).map ptS) → id < n → bG h n →
      Run env 113 none Q (.loop BB) ks (Y :: x1 :: a9.aA :: .map id :: a9.aA :: x5 :: x6 :: a9.aA :: x8 :: a9.aA :: a9.aA :: x11 :: x12 :: x13 :: x14 :: a9.aA :: a9.aA :: a9.aA :: a9.aA :: a9.aA :: a9.aA :: a9.aA :: a9.aA :: a9.aA :: a9.aA :: a9.aA :: a9.aA :: a9.aA :: a9.aA :: a9.aA :: a9.aA :: a9.aA :: a9.aA :: a9.aA :: a9.aA :: a9.aA :: a9.aA :: a9.aA :: a9.aA :: a9.aA :: a9.aA :: a9.aA :: a9.aA :: a9.aA :: a9.aA :: a9.aA :: a9.aA :: a9.aA :: a9.aA :: a9.aA :: a9.aA :: a9.aA :: a9.aA :: a9.aA :: a9.aA :: a9.aA :: a9.aA :: a9.aA :: a9.aA :: a9.aA :: a9.aA :: a9.aA :: a9.aA :: x63 :: a9.aA :: a9.aA :: a9.aA :: sv :: .int .i64 (A.cG.length : Nat) :: .int .i64 (i : Nat) :: x70 :: a9.aA :: a9.aA :: a9.aA :: a9.aA :: a9.aA :: a9.aA :: a9.aA :: a9.aA :: a9.aA :: a9.aA :: a9.aA :: a9.aA :: a9.aA :: a9.aA :: a9.aA :: a9.aA :: a9.aA :: a9.aA :: x89 :: a9.aA :: []) h n := by
  intro m
  induction m with
  | zero =>
    intro i h n x1 x5 x6 x8 x11 x12 x13 x14 x63 x70 x89 hm hp hmp hin hf
    have : i = A.cG.length := by omega
    subst this
    rw [cY]
    have hcc : ¬ (((A.cG.length : Nat) : Int) < ((A.cG.length : Nat) : Int)) := by omega
    simp only [BB, c8, Try.f113, Option.getD_some, fgr, bor, List.getD_cons_zero, List.getD_cons_succ, hcc, gE]
    exact hT h n _ hp
  | succ m ih =>
    intro i h n x1 x5 x6 x8 x11 x12 x13 x14 x63 x70 x89 hm hp hmp hin hf
    obtain ⟨hrc, ha⟩ := hP _ h hp
    have hil : i < A.cG.length := by omega
    have hcc : (((i : Nat) : Int) < ((A.cG.length : Nat) : Int)) := by omega
    have w1 : IntKind.i64.wrap (((i : Nat) : Int) + 1) = ((i + 1 : Nat) : Int) := by rw [w64 (by omega) (by have := ha.sl; omega)]; omega
    obtain ⟨ok, hld⟩ := ha.s.all (n := n) hil
    have hge : A.cG[i]? = some A.cG[i] := List.getElem?_eq_getElem hil
    have hmay : MH A.cG i = decide (l9 ((A.cG.take (i + 1)).map ptS) (ptS A.cG[i]) = 1) := by unfold MH; rw [hge]
    have htk : (A.cG.take (i + 1)).map ptS = (A.cG.take i).map ptS ++ [ptS A.cG[i]] := by rw [kL hil, List.map_append]; rfl
    have hYi := hY i hil
    rw [hmay] at hYi
    generalize A.cG[i] = v at *
    rw [cY]
    simp only [BB, c8, Try.f113, Option.getD_some, fgr, bor, List.getD_cons_zero, List.getD_cons_succ, hcc, gE]
    rw [aI (ha.s.idx hil)]
    simp only [gE]
    rw [aI hld]
    simp only [gE]
    rw [cD vL rfl]
    simp only [cel, gE]
    refine dM (v := .agg (gD v)) vL rfl (iY ok) (wT v) hf fun H1 r1 p1 f1 => ?_
    replace r1 : Row H1 n (gD v) := r1
    have m1 : Pm H1 id ((A.cG.take i).map ptS) := hmp.aS (p1 id (by omega))
    have hlen : ((A.cG.take i).map ptS).length ≤ 1000000 := by rw [List.length_map, List.length_take]; have := ha.sl; omega
    simp only [bP, fgr, bX, aE]
    refine zS (act := Ins.rA) YQ ?_
    unfold Ins.rA
    refine G2 (p := ptS v) rfl rfl rfl r1 (KP ok) ok.h m1 (by omega) fun H3 k3 m3 => ?_
    have e3 : ∀ j, j < n0 → H3 j = h j := fun j hj => by rw [k3 j (by omega), p1 j (by omega)]
    have p3 : P (A.made.length + i) H3 := hst _ h H3 hp e3
    have r3 : Row H3 n (gD v) := r1.aS (k3 n (by omega))
    have f3 : bG H3 (n + 1) := fun j hj => by rw [k3 j (by omega)]; exact f1 j hj
    rw [← htk] at m3
    simp only [bP, put, Ins.vD]
    refine cP ⟨rfl, ?_⟩
    simp only [tyr, aQ, Nat.reduceAdd, gE]
    rw [bJ (wE r3 ok)]
    simp only [tyr, aQ, Nat.reduceAdd, gE]
    rw [bJ (wE r3 ok)]
    have hlk : Rd (j9 env 161 (.map id) (.agg (aX v.aO v.pn)) false) H3 (n + 1) [id] _ := m3.lookup (p := ptS v) ok.h
    simp only [Nat.reduceAdd, gE]
    rw [bJ hlk]
    have ecnt : decide (((l9 ((A.cG.take (i + 1)).map ptS) (ptS v) : Nat) : Int) = 1) = decide (l9 ((A.cG.take (i + 1)).map ptS) (ptS v) = 1) := by
      rw [decide_eq_decide]; omega
    simp only [bor, Nat.reduceAdd, ecnt, gE]
    refine eE f3 (hYi (.bool (decide (l9 ((A.cG.take (i + 1)).map ptS) (ptS v) = 1))) H3 (n + 1) p3 (by omega) f3 rfl) fun v4 h4 n4 rr ww hn4 f4 ⟨hh, kk⟩ => ?_
    rcases hh with ⟨e4 | e4, hp4⟩ | ⟨e4 | e4, hr4⟩
    · subst e4
      simp only [fgr, bor, bS, unOp, Nat.reduceAdd, gE]
      refine ⟨(by (try simp (disch := first | assumption | omega) only [dW, gF]); repeat' (first | rfl | exact (Bool.or_eq_true _ _).mpr (.inr rfl) | refine (Bool.and_eq_true _ _).mpr ⟨?_, ?_⟩)), ?_⟩
      simp only [w1]
      exact ih (i + 1) h4 n4 _ _ _ _ _ _ _ _ _ _ _ (by omega) hp4 (m3.aS (kk id hid (by omega))) (by omega) f4
    · subst e4
      simp only [fgr, bor, bS, unOp, Nat.reduceAdd, gE]
      refine ⟨(by (try simp (disch := first | assumption | omega) only [dW, gF]); repeat' (first | rfl | exact (Bool.or_eq_true _ _).mpr (.inr rfl) | refine (Bool.and_eq_true _ _).mpr ⟨?_, ?_⟩)), ?_⟩
      simp only [w1]
      exact ih (i + 1) h4 n4 _ _ _ _ _ _ _ _ _ _ _ (by omega) hp4 (m3.aS (kk id hid (by omega))) (by omega) f4
    · subst e4
      simp only [fgr, unOp, Nat.reduceAdd, gE]
      exact ⟨(by (try simp (disch := first | assumption | omega) only [dW, gF]); repeat' (first | rfl | exact (Bool.or_eq_true _ _).mpr (.inr rfl) | refine (Bool.and_eq_true _ _).mpr ⟨?_, ?_⟩)), hR h4 n4 _ hr4⟩
    · subst e4
      simp only [fgr, unOp, Nat.reduceAdd, gE]
      exact ⟨(by (try simp (disch := first | assumption | omega) only [dW, gF]); repeat' (first | rfl | exact (Bool.or_eq_true _ _).mpr (.inr rfl) | refine (Bool.and_eq_true _ _).mpr ⟨?_, ?_⟩)), hR h4 n4 _ hr4⟩
theorem f113 (Y mv sv : a9) (c a b : Nat) (A : App) (h : Hp) (n : Nat) (hc : c < n) (hb : b ≤ n) (hf : bG h n)
    (P : Nat → Hp → Prop) (R : Hp → Prop) (h0 : P 0 h)
    (hP : ∀ k h, P k h → Row h c (cX A mv sv) ∧ j6 h a b A mv sv)
    (hst : ∀ k h h', P k h → (∀ j, j < n → h' j = h j) → P k h')
    (hsr : ∀ h h', R h → (∀ j, j < n → h' j = h j) → R h')
    (hY1 : ∀ (k : Nat) (hk : k < A.made.length) (w : a9) (h' : Hp) (n' : Nat), P k h' → n ≤ n' → bG h' n' → w = .bool (IH A.bR A.made k) → Wp (kG env (aY env) Y [ptA (ptV A.made[k]), w]) h' n' fun v1 h1 n1 => ((yes true v1 ∧ P (k + 1) h1) ∨ (yes false v1 ∧ R h1)) ∧ ∀ j, n ≤ j → j < n' → h1 j = h' j)
    (hY2 : ∀ (k : Nat) (hk : k < A.cG.length) (w : a9) (h' : Hp) (n' : Nat), P (A.made.length + k) h' → n ≤ n' → bG h' n' → w = .bool (MH A.cG k) → Wp (kG env (aY env) Y [ptA (ptS A.cG[k]), w]) h' n' fun v1 h1 n1 => ((yes true v1 ∧ P (A.made.length + k + 1) h1) ∨ (yes false v1 ∧ R h1)) ∧ ∀ j, n ≤ j → j < n' → h1 j = h' j) :
    Wp (bM env (aY env) 113 [Y, .ptr c 0]) h n fun v' h' n' => v' = .tup [] ∧ (P (A.made.length + A.cG.length) h' ∨ R h') := by
  obtain ⟨hrc, ha⟩ := hP 0 h h0
  refine aZ ae2 ZW ?_
  simp only [N8, Try.f113, Option.getD_some, List.replicate, tyr, fgr, opt, aQ, Nat.reduceAdd, Nat.reduceSub, pP, opt, oD, gE]
  obtain ⟨H1, hH1⟩ : ∃ H1, H1 = upd h n (some (Blk.map [] 0)) := ⟨_, rfl⟩
  rw [← hH1]
  have o1 : ∀ j, j < n → H1 j = h j := fun j hj => by rw [hH1, aG _ _ (by omega)]
  have m1 : Pm H1 n [] := Pm.new (by rw [hH1, aP])
  have f1 : bG H1 (n + 1) := by rw [hH1]; exact hf.new
  clear hH1
  have p1 := hst 0 h H1 h0 o1
  obtain ⟨hrc1, ha1⟩ := hP 0 H1 p1
  rw [aI (BX hrc1 ha1.b)]
  simp only [fgr, builtin, ha1.m.len, gE]
  refine IJ _ _ Y mv sv c n a b n A (Nat.le_refl _) hc hb P R hP hst hsr hY1 ?_ ?_ A.made.length 0 H1 (n + 1) _ _ _ _ _ _ _ _ _ _ (by omega) p1 m1 (by omega) f1
  · intro h2 n2 x5 x6 x8 x14 x63 x67 x68 x69 x70 x89 p2 m2 hn2 f2
    simp only [builtin, gE]
    obtain ⟨H3, w3, k3, m3⟩ := m2.clear (n := n2)
    rw [eS w3]
    have p3 := hst _ h2 H3 p2 fun j hj => k3 j (by omega)
    have f3 : bG H3 n2 := fun j hj => by rw [k3 j (by omega)]; exact f2 j hj
    obtain ⟨hrc3, ha3⟩ := hP _ H3 p3
    simp only [tyr, fgr, aQ, gE]
    rw [aI (BW hrc3 ha3.b)]
    simp only [fgr, builtin, ha3.s.len, gE]
    refine II _ _ Y mv sv c n a b n A (Nat.le_refl _) hc hb P R hP hst hY2 ?_ ?_ A.cG.length 0 H3 n2 _ _ _ _ _ _ _ _ _ _ _ (by omega) p3 m3 hn2 f3
    · intro h4 n4 tm p4
      simp only [bP, true_and]
      exact .inl p4
    · intro h4 n4 tm r4
      simp only [bP, true_and]
      exact .inr r4
  · intro h4 n4 tm r4
    simp only [bP, true_and]
    exact .inr r4
def bs (b : Bool) (v : a9) : a9 := match b with
  | true => v
  | false => undef
section
variable {E : Env} {fn : FuncId} {rnd : Option Nat} {Q : fC} {ks : List Kf} {tm : List a9} {h : Hp} {n : Nat} {ops bH : List Oper} {d : Option Tmp}
theorem jO {b : Bool} {op : Op} {v : a9} (hr : b = true → Wp (execOp E (aY E) tm op) h n fun v' h' n' => v' = v ∧ h' = h ∧ n' = n) (hq : Ops E fn rnd Q ks ops bH (bX tm d (bs b v)) h n) : OpG E fn rnd Q ks ops bH d tm op true (.gY b) h n := by
  cases b with
  | true => rw [LV]; exact dA (hr rfl) hq
  | false => rw [LW]; exact hq
theorem nK {b m : Bool} : OpV E fn rnd Q ks ops bH d tm (aT (.bool b) (bs b (.bool m)) (.bool false)) h n ↔ Ops E fn rnd Q ks ops bH (bX tm d (.bool (b && m))) h n := by
  cases b <;> simp only [bs, aT, branch, B1, lC, Bool.true_and, Bool.false_and]
end
theorem f101 (A : App) (mv sv : a9) (h : Hp) (n : Nat) (hf : bG h n) : Wp (bM env (aY env) 101 [.agg (cX A mv sv)]) h n fun v' h' n' => v' = .fn (.func 113) [] [.ptr n 0] ∧ Row h' n (cX A mv sv) ∧ (∀ j, j ≠ n → h' j = h j) ∧ n' = n + 1 := by
  refine aZ af0 aa4 ?_
  simp only [NI, Try.f101, Option.getD_some, List.replicate, Nat.reduceSub, gE]
  refine dU (v := .agg (cX A mv sv)) AT rfl hf fun H1 r1 o1 f1 => ?_
  simp only [fgr, gE]
  exact ⟨r1, o1⟩
def xI (A : App) (k : Nat) : Bool := if k < A.made.length then IH A.bR A.made k else MH A.cG (k - A.made.length)
def N3 (A : App) : Bool := wJ A.bR && nD A.fU && nD A.left && decide (A.made.length ≤ 5000) && decide (A.cG.length ≤ 5000)
def jC (A : App) (k : Nat) : Bool := N3 A && (List.range k).all (xI A)
def mO (A : App) : Bool := jC A (A.made.length + A.cG.length)
theorem RE (A : App) : jC A 0 = N3 A := by simp [jC]
theorem GY (A : App) (k : Nat) : jC A (k + 1) = (jC A k && xI A k) := by
  unfold jC
  rw [List.range_succ, List.all_append]
  simp [Bool.and_assoc]
theorem NJ {A : App} {k : Nat} (h : jC A k = false) (hk : k ≤ A.made.length + A.cG.length) : mO A = false := by
  unfold mO
  obtain ⟨d, hd⟩ := Nat.exists_eq_add_of_le hk
  rw [hd]
  clear hd hk
  induction d with
  | zero => exact h
  | succ d ih => rw [← Nat.add_assoc, GY, ih]; rfl
noncomputable def L67 (tm : List a9) : lE := { state := .ready, pending := none, fn := 67, tmps := tm, params := [33, 34], assign := LA, body := L5 }
theorem f67 (A : App) (mv sv : a9) (a b : Nat) (h : Hp) (n : Nat) (ha : j6 h a b A mv sv) (hb : b ≤ n) (hf : bG h n) : Wp (bM env (aY env) 67 [.agg (cX A mv sv)]) h n fun v' h' n' => v' = .int .i64 (if mO A then 0 else 200) ∧ Old h h' n := by
  refine aZ az1 ao5 ?_
  simp only [W3, Try.f67, Option.getD_some, List.replicate, Nat.reduceSub, gE]
  refine dU (v := .agg (cX A mv sv)) AT rfl hf fun H1 r1 o1 f1 => ?_
  replace r1 : Row H1 n (cX A mv sv) := r1
  have a1 := ha.aS (h' := H1) fun j _ q => o1 j (by omega)
  simp only [tyr, fgr, aQ, gE]
  rw [aI (uT r1)]
  simp only [hkr, gE]
  refine dA (f99 A.bR H1 (n + 1)) ?_
  obtain ⟨b1, hb1⟩ : ∃ b, b = wJ A.bR := ⟨_, rfl⟩
  rw [← hb1]
  simp only [gE]
  refine jO (v := .ptr n 35) (fun _ => aM.2 ⟨rfl, rfl, rfl⟩) ?_
  simp only [bP, bX, put, nth, List.getElem?_cons_succ, List.getElem?_cons_zero]
  refine jO (v := .int .i64 A.fU) (fun hb => by subst hb; exact (BZ r1 ha.b).wp) ?_
  simp only [bP, bX, put, nth, List.getElem?_cons_succ, List.getElem?_cons_zero]
  refine jO (v := .bool (nD A.fU)) (fun hb => by subst hb; exact f100 A.fU H1 (n + 1)) ?_
  simp only [nK, gE]
  obtain ⟨b2, hb2⟩ : ∃ b, b = (b1 && nD A.fU) := ⟨_, rfl⟩
  rw [← hb2]
  refine jO (v := .ptr n 36) (fun _ => aM.2 ⟨rfl, rfl, rfl⟩) ?_
  simp only [bP, bX, put, nth, List.getElem?_cons_succ, List.getElem?_cons_zero]
  refine jO (v := .int .i64 A.left) (fun hb => by subst hb; exact (BY r1 ha.b).wp) ?_
  simp only [bP, bX, put, nth, List.getElem?_cons_succ, List.getElem?_cons_zero]
  refine jO (v := .bool (nD A.left)) (fun hb => by subst hb; exact f100 A.left H1 (n + 1)) ?_
  simp only [nK, gE]
  obtain ⟨b3, hb3⟩ : ∃ b, b = (b2 && nD A.left) := ⟨_, rfl⟩
  rw [← hb3]
  refine jO (v := .ptr n 33) (fun _ => aM.2 ⟨rfl, rfl, rfl⟩) ?_
  simp only [bP, bX, put, nth, List.getElem?_cons_succ, List.getElem?_cons_zero]
  refine jO (v := mv) (fun hb => by subst hb; exact (BX r1 ha.b).wp) ?_
  simp only [bP, bX, put, nth, List.getElem?_cons_succ, List.getElem?_cons_zero]
  refine jO (v := .int .i64 (A.made.length : Nat)) (fun hb => by subst hb; show Wp (dD env [43] mv) _ _ _; rw [a1.m.len]; exact aM.2 ⟨rfl, rfl, rfl⟩) ?_
  simp only [bP, bX, put, nth, List.getElem?_cons_succ, List.getElem?_cons_zero]
  refine jO (v := .bool (decide (((A.made.length : Nat) : Int) ≤ 5000))) (fun hb => by subst hb; exact aM.2 ⟨rfl, rfl, rfl⟩) ?_
  simp only [nK, gE]
  obtain ⟨b4, hb4⟩ : ∃ b, b = (b3 && decide (((A.made.length : Nat) : Int) ≤ 5000)) := ⟨_, rfl⟩
  rw [← hb4]
  refine jO (v := .ptr n 34) (fun _ => aM.2 ⟨rfl, rfl, rfl⟩) ?_
  simp only [bP, bX, put, nth, List.getElem?_cons_succ, List.getElem?_cons_zero]
  refine jO (v := sv) (fun hb => by subst hb; exact (BW r1 ha.b).wp) ?_
  simp only [bP, bX, put, nth, List.getElem?_cons_succ, List.getElem?_cons_zero]
  refine jO (v := .int .i64 (A.cG.length : Nat)) (fun hb => by subst hb; show Wp (dD env [44] sv) _ _ _; rw [a1.s.len]; exact aM.2 ⟨rfl, rfl, rfl⟩) ?_
  simp only [bP, bX, put, nth, List.getElem?_cons_succ, List.getElem?_cons_zero]
  refine jO (v := .bool (decide (((A.cG.length : Nat) : Int) ≤ 5000))) (fun hb => by subst hb; exact aM.2 ⟨rfl, rfl, rfl⟩) ?_
  simp only [nK, gE]
  have hb5 : (b4 && decide (((A.cG.length : Nat) : Int) ≤ 5000)) = jC A 0 := by
    rw [RE, hb4, hb3, hb2, hb1]
    unfold N3
    have q1 : decide (((A.made.length : Nat) : Int) ≤ 5000) = decide (A.made.length ≤ 5000) := by rw [decide_eq_decide]; omega
    have q2 : decide (((A.cG.length : Nat) : Int) ≤ 5000) = decide (A.cG.length ≤ 5000) := by rw [decide_eq_decide]; omega
    rw [q1, q2]
  rw [hb5]
  rw [cD ti4 rfl]
  simp only [cel, gE]
  refine dM (v := .bool (jC A 0)) ti4 rfl rfl rfl f1 fun H2 r2 o2 f2 => ?_
  replace r2 : Row H2 (n + 1) [.bool (jC A 0)] := r2
  have r12 := r1.aS (o2 n (by omega))
  simp only [fgr, gE]
  rw [aI (yV r12 ha.b)]
  simp only [hkr, gE]
  refine aJ f2 (f101 A mv sv H2 (n + 1 + 1) f2) fun v3 h3 n3 hn3 f3 ⟨e3, r3, o3, en3⟩ => ?_
  subst e3; subst en3
  simp only [bP, fgr, bX, put, aE]
  refine lS (g := 113) (first := []) (cap := [.ptr (n + 1 + 1) 0]) rfl rfl ?_
  let TM : List a9 := (.agg (cX A mv sv) :: .ptr n 0 :: .int .i64 0 :: .ptr (n + 1) 0 :: a9.aA :: undef :: a9.aA :: a9.aA :: a9.aA :: a9.aA :: a9.aA :: a9.aA :: a9.aA :: a9.aA :: a9.aA :: a9.aA :: a9.aA :: a9.aA :: a9.aA :: a9.aA :: a9.aA :: a9.aA :: a9.aA :: a9.aA :: a9.aA :: a9.aA :: a9.aA :: a9.aA :: a9.aA :: a9.aA :: a9.aA :: a9.aA :: .fn (.func 113) [] [.ptr (n + 1 + 1) 0] :: a9.aA :: undef :: a9.aA :: a9.aA :: a9.aA :: a9.aA :: a9.aA :: undef :: a9.aA :: undef :: [])
  obtain ⟨H4, hH4⟩ : ∃ H4, H4 = upd h3 (n + 1 + 1 + 1) (some (Blk.loop (L67 TM))) := ⟨_, rfl⟩
  show Wp (gX env (aY env) 113 [a9.fn (Fn.yield (n + 1 + 1 + 1)) [] [], a9.ptr (n + 1 + 1) 0]) (upd h3 (n + 1 + 1 + 1) (some (Blk.loop (L67 TM)))) (n + 1 + 1 + 1 + 1) _
  rw [ZA, ← hH4]
  have f4 : bG H4 (n + 1 + 1 + 1 + 1) := by rw [hH4]; exact f3.new
  have o4 : ∀ j, j ≠ n + 1 + 1 + 1 → H4 j = h3 j := fun j hj => by rw [hH4, aG _ _ hj]
  have g4 : H4 (n + 1 + 1 + 1) = some (.loop (L67 TM)) := by rw [hH4, aP]
  clear hH4
  have old4 : ∀ j, j < n → H4 j = h j := fun j hj => by rw [o4 j (by omega), o3 j (by omega), o2 j (by omega), o1 j (by omega)]
  have a4 : j6 H4 a b A mv sv := ha.aS fun j _ q => old4 j (by omega)
  have r4 : Row H4 (n + 1) [.bool (jC A 0)] := (r2.aS (o3 _ (by omega))).aS (o4 _ (by omega))
  have rc4 : Row H4 (n + 1 + 1) (cX A mv sv) := r3.aS (o4 _ (by omega))
  have step : ∀ (k : Nat) (w pv : a9) (h1 : Hp) (n1 : Nat), k < A.made.length + A.cG.length → Row h1 (n + 1) [.bool (jC A k)] → h1 (n + 1 + 1 + 1) = some (.loop (L67 TM)) → (∀ j, j < n + 1 + 1 + 1 + 1 → j ≠ n + 1 → j ≠ n + 1 + 1 + 1 → h1 j = H4 j) → n + 1 + 1 + 1 + 1 ≤ n1 → bG h1 n1 → w = .bool (xI A k) →
      Wp (kG env (aY env) (.fn (.yield (n + 1 + 1 + 1)) [] []) [pv, w]) h1 n1 fun v' h' n' => ((yes true v' ∧ Row h' (n + 1) [.bool (jC A (k + 1))] ∧ h' (n + 1 + 1 + 1) = some (.loop (L67 TM)) ∧ (∀ j, j < n + 1 + 1 + 1 + 1 → j ≠ n + 1 → j ≠ n + 1 + 1 + 1 → h' j = H4 j)) ∨
        (yes false v' ∧ mO A = false ∧ Row h' (n + 1) [.bool false] ∧ (∃ l, h' (n + 1 + 1 + 1) = some (.loop l) ∧ l.state = .done ∧ l.pending = some (.exit 0)) ∧ (∀ j, j < n + 1 + 1 + 1 + 1 → j ≠ n + 1 → j ≠ n + 1 + 1 + 1 → h' j = H4 j))) ∧ ∀ j, n + 1 + 1 + 1 + 1 ≤ j → j < n1 → h' j = h1 j := by
    intro k w pv h1 n1 hk hr1 hlo hkp hn1 hf1 hw
    refine nF hlo rfl rfl ?_
    simp only [LA, List.getD_cons_zero, mD, List.zip_cons_cons, List.zip_nil_left, L67, TM, cZ, Try.f67, Option.getD_some, fgr, gE]
    refine ⟨_, hlo, rfl, ?_⟩
    obtain ⟨h2, hh2⟩ : ∃ h2, h2 = upd h1 (n + 1 + 1 + 1) (some (Blk.loop { L67 TM with state := .busy })) := ⟨_, rfl⟩
    have ho2 : ∀ j, j ≠ n + 1 + 1 + 1 → h2 j = h1 j := fun j hj => by rw [hh2, aG _ _ hj]
    have hlo2 : h2 (n + 1 + 1 + 1) = some (.loop { L67 TM with state := .busy }) := by rw [hh2, aP]
    have hf2 : bG h2 n1 := by rw [hh2]; exact hf1.upd (by omega)
    show Run env 67 _ _ _ _ _ (upd h1 (n + 1 + 1 + 1) (some (Blk.loop { L67 TM with state := .busy }))) n1
    rw [← hh2]
    clear hh2
    obtain ⟨e0, hr2⟩ := hr1.aS (ho2 (n + 1) (by omega))
    simp only [L5, List.getD_cons_zero, cZ, Try.f67, Option.getD_some, fgr, gE]
    subst hw
    have rd2 : Rd (load env 4 (.ptr (n + 1) 0)) h2 n1 [n + 1] (.bool (jC A k)) := Row.one (cs := [.bool (jC A k)]) (off := 0) ⟨e0, hr2⟩ rfl ti4 rfl
    rw [aI rd2]
    simp only [gE]
    refine jO (v := .bool (xI A k)) (fun _ => aM.2 ⟨rfl, rfl, rfl⟩) ?_
    simp only [nK, gE]
    rw [← GY]
    rw [eS (Row.eZ (v := .bool (jC A (k + 1))) hr2 ti4 rfl (by show 0 + 1 ≤ 1; omega) rfl)]
    obtain ⟨h3', hh3⟩ : ∃ h3', h3' = upd h2 (n + 1) (some (.row (.l [.bool (jC A (k + 1))]) e0)) := ⟨_, rfl⟩
    show Ops _ _ _ _ _ _ _ _ (upd h2 (n + 1) (some (.row (.l [.bool (jC A (k + 1))]) e0))) _
    rw [← hh3]
    have r3' : Row h3' (n + 1) [.bool (jC A (k + 1))] := ⟨e0, by rw [hh3, aP]⟩
    have o3' : ∀ j, j ≠ n + 1 → h3' j = h2 j := fun j hj => by rw [hh3, aG _ _ hj]
    clear hh3
    have hlo3 : h3' (n + 1 + 1 + 1) = some (.loop { L67 TM with state := .busy }) := (o3' _ (by omega)).trans hlo2
    simp only [fgr, gE]
    rw [aI (r3'.one (off := 0) rfl ti4 rfl)]
    cases hfb : jC A (k + 1) with
    | true =>
      rw [hfb] at r3'
      simp only [fgr, unOp, gE]
      refine ⟨_, hlo3, .inl ⟨.inl rfl, (r3'.upd (by omega)), aP _ _ _, fun j h1 h2 h3 => ?_⟩, fun j h1 h2 => ?_⟩
      · rw [aG _ _ h3, o3' j h2, ho2 j h3, hkp j h1 h2 h3]
      · rw [aG _ _ (by omega), o3' j (by omega), ho2 j (by omega)]
    | false =>
      rw [hfb] at r3'
      simp only [fgr, unOp, gE]
      refine ⟨_, hlo3, .inr ⟨.inl rfl, NJ hfb (by omega), (r3'.upd (by omega)), ⟨_, aP _ _ _, rfl, rfl⟩, fun j h1 h2 h3 => ?_⟩, fun j h1 h2 => ?_⟩
      · rw [aG _ _ h3, o3' j h2, ho2 j h3, hkp j h1 h2 h3]
      · rw [aG _ _ (by omega), o3' j (by omega), ho2 j (by omega)]
  have lo4 : ∀ (h1 h2 : Hp), (∀ j, j < n + 1 + 1 + 1 + 1 → h2 j = h1 j) → (∀ j, j < n + 1 + 1 + 1 + 1 → j ≠ n + 1 → j ≠ n + 1 + 1 + 1 → h1 j = H4 j) → ∀ j, j < n + 1 + 1 + 1 + 1 → j ≠ n + 1 → j ≠ n + 1 + 1 + 1 → h2 j = H4 j := fun h1 h2 q k j q1 q2 q3 => by rw [q j q1, k j q1 q2 q3]
  refine dL (f113 (.fn (.yield (n + 1 + 1 + 1)) [] []) mv sv (n + 1 + 1) a b A H4 (n + 1 + 1 + 1 + 1) (by omega) (by omega) f4
    (fun k h1 => Row h1 (n + 1) [.bool (jC A k)] ∧ h1 (n + 1 + 1 + 1) = some (.loop (L67 TM)) ∧ ∀ j, j < n + 1 + 1 + 1 + 1 → j ≠ n + 1 → j ≠ n + 1 + 1 + 1 → h1 j = H4 j)
    (fun h1 => mO A = false ∧ Row h1 (n + 1) [.bool false] ∧ (∃ l, h1 (n + 1 + 1 + 1) = some (.loop l) ∧ l.state = .done ∧ l.pending = some (.exit 0)) ∧ ∀ j, j < n + 1 + 1 + 1 + 1 → j ≠ n + 1 → j ≠ n + 1 + 1 + 1 → h1 j = H4 j)
    ⟨r4, g4, fun j _ _ _ => rfl⟩ ?_ ?_ ?_ ?_ ?_) ?_
  · rintro k h1 ⟨q1, q2, q3⟩
    exact ⟨rc4.aS (q3 _ (by omega) (by omega) (by omega)), a4.aS fun j _ q => q3 j (by omega) (by omega) (by omega)⟩
  · rintro k h1 h2 ⟨q1, q2, q3⟩ q
    exact ⟨q1.aS (q _ (by omega)), (q _ (by omega)).trans q2, lo4 h1 h2 q q3⟩
  · rintro h1 h2 ⟨q0, q1, ⟨l, q2, q4, q5⟩, q3⟩ q
    exact ⟨q0, q1.aS (q _ (by omega)), ⟨l, (q _ (by omega)).trans q2, q4, q5⟩, lo4 h1 h2 q q3⟩
  · rintro k hk w h1 n1 ⟨q1, q2, q3⟩ hn1 hf1 hw
    exact step k w _ h1 n1 (by omega) q1 q2 q3 hn1 hf1 (by rw [hw]; unfold xI; rw [if_pos hk])
  · rintro k hk w h1 n1 ⟨q1, q2, q3⟩ hn1 hf1 hw
    exact step (A.made.length + k) w _ h1 n1 (by omega) q1 q2 q3 hn1 hf1 (by rw [hw]; unfold xI; rw [if_neg (by omega), Nat.add_sub_cancel_left])
  · rintro v5 h5 n5 ⟨e5, hh⟩
    rcases hh with ⟨q1, q2, q3⟩ | ⟨q0, q1, ⟨l, q2, q4, q5⟩, q3⟩
    · refine ⟨_, q2, (fun q => by cases q), .normal, rfl, ?_⟩
      replace q1 : Row h5 (n + 1) [.bool (mO A)] := q1
      simp only [gE]
      rw [aI ((q1.upd (i := n + 1 + 1 + 1) (by omega)).one (off := 0) rfl ti4 rfl)]
      have old5 : ∀ (b : Option Blk), Old h (upd h5 (n + 1 + 1 + 1) b) n := fun b j hj => by rw [aG _ _ (by omega), q3 j (by omega) (by omega) (by omega), old4 j hj]
      cases hcb : mO A with
      | true => simp only [fgr, unOp, ↓reduceIte, gE]; exact old5 _
      | false => simp only [fgr, unOp, ↓reduceIte, reduceCtorEq, gE]; exact old5 _
    · refine ⟨_, q2, (fun q => by rw [q4] at q; cases q), .exit 0, by rw [q5], ?_⟩
      simp only [gE]
      rw [aI ((q1.upd (i := n + 1 + 1 + 1) (by omega)).one (off := 0) rfl ti4 rfl)]
      have old5 : ∀ (b : Option Blk), Old h (upd h5 (n + 1 + 1 + 1) b) n := fun b j hj => by rw [aG _ _ (by omega), q3 j (by omega) (by omega) (by omega), old4 j hj]
      rw [q0]
      simp only [fgr, unOp, ↓reduceIte, reduceCtorEq, gE]; exact old5 _
structure Ixw (K T : Nat → Prop) (h : Hp) (n x : Nat) (L : List Ver) : Prop where
  ix : ∃ D M, Ix h n D M x L ∧ (∀ j, K j → j < n ∧ ¬ M j) ∧ ∀ j, T j → j < n ∧ ¬ D j
  g : ∀ v ∈ L, zP v
variable {K T : Nat → Prop} {h h' : Hp} {n n' x : Nat} {L : List Ver}
theorem Ixw.rL (s : Ixw K T h n x L) : eU false L := by
  obtain ⟨⟨D, M, i, _⟩, _⟩ := s
  exact i.r
theorem Ixw.sub {K' : Nat → Prop} (s : Ixw K T h n x L) (hk : ∀ j, K' j → K j) : Ixw K' T h n x L := by
  obtain ⟨⟨D, M, i, q, t⟩, g⟩ := s
  exact ⟨⟨D, M, i, fun j hj => q j (hk j hj), t⟩, g⟩
theorem Ixw.tK (s : Ixw K T h n x L) (hn : n ≤ n') (ho : Old h h' n) : Ixw (fun j => K j ∨ (n ≤ j ∧ j < n')) T h' n' x L := by
  obtain ⟨⟨D, M, i, q, t⟩, g⟩ := s
  refine ⟨⟨D, M, i.old hn ho, fun j hj => ?_, fun j hj => ⟨by have := (t j hj).1; omega, (t j hj).2⟩⟩, g⟩
  rcases hj with hj | hj
  · exact ⟨by have := (q j hj).1; omega, (q j hj).2⟩
  · obtain ⟨⟨S, ⟨vl, vs, xl, xs, iv, mx, ml, ms, mn⟩, _⟩, _⟩ := i
    exact ⟨hj.2, fun w => by have := (mn j w).1; omega⟩
theorem Ixw.old (s : Ixw K T h n x L) (hn : n ≤ n') (ho : Old h h' n) : Ixw K T h' n' x L := (s.tK hn ho).sub fun j q => .inl q
theorem Chg.w {D M D' M' : Nat → Prop} (c : Chg h n D M h' n' D' M') (q : ∀ j, K j → j < n ∧ ¬ M j) (t : ∀ j, T j → j < n ∧ ¬ D j) : (∀ j, K j → h' j = h j) ∧ (∀ j, K j → j < n' ∧ ¬ M' j) ∧ ∀ j, T j → j < n' ∧ ¬ D' j := by
  refine ⟨fun j hj => c.old j (q j hj).1 (q j hj).2, fun j hj => ⟨by have := (q j hj).1; have := c.nx; omega, fun w => ?_⟩, fun j hj => ⟨by have := (t j hj).1; have := c.nx; omega, fun w => ?_⟩⟩
  · have := q j hj
    rcases c.m' j w with w | w
    · exact this.2 w
    · omega
  · have := t j hj
    rcases c.d' j w with w | w
    · exact this.2 w
    · omega
theorem aC4 (v : Ver) (sv : a9) (ov : v.Ok) (hpn : 0 ≤ v.pn) (hsl : v.aL.length ≤ 1000000) (hs : Ixw K T h n x L) (hb : Bytes h sv v.aL) (hsn : ∀ j, bB sv = some j → j < n) (hc : L.length ≤ 900000) (hf : bG h n) :
    Wp (bM env (aY env) 33 [.ptr x 0, .agg (aK v sv)]) h n fun v' h' n' => (∀ j, K j → h' j = h j) ∧ ((BK v L ∧ v' = .int .i64 210 ∧ Ixw K T h' n' x L) ∨ (¬ BK v L ∧ v' = .int .i64 0 ∧ Ixw K T h' n' x (rF L v))) := by
  obtain ⟨⟨D, M, i, q, t⟩, g⟩ := hs
  refine dL (f33 x v sv ov hsl L D M h n i hb hsn hc hf) fun v' h' n' hh => ?_
  rcases hh with ⟨a, b, i', c⟩ | ⟨a, b, D', M', i', c⟩
  · exact ⟨(c.w q t).1, .inl ⟨a, b, ⟨⟨_, _, i', (c.w q t).2⟩, g⟩⟩⟩
  · refine ⟨(c.w q t).1, .inr ⟨a, b, ⟨⟨_, _, i', (c.w q t).2⟩, fun w hw => ?_⟩⟩⟩
    rcases LI.1 hw with rfl | hw
    · refine ⟨?_, hpn⟩
      cases e : vT w with
      | false => rfl
      | true => exact absurd (.inl e) a
    · exact g w hw
theorem aC3 (aO : List UInt8) (pn made : Int) (hl : aO.length = 32) (hs : Ixw K T h n x L) (hc : L.length ≤ 900000) (hf : bG h n) :
    Wp (bM env (aY env) 34 [.ptr x 0, .agg (aX aO pn), .int .i64 made]) h n fun v' h' n' => (∀ j, K j → h' j = h j) ∧ (((∀ w ∈ L, gM w (key aO pn made) ≠ 0) ∧ v' = .int .i64 210 ∧ Ixw K T h' n' x L) ∨ ∃ w, w ∈ L ∧ gM w (key aO pn made) = 0 ∧ v' = .int .i64 0 ∧ Ixw K T h' n' x (lI L w)) := by
  obtain ⟨⟨D, M, i, q, t⟩, g⟩ := hs
  refine dL (f34 x aO pn made hl L D M h n i (by omega) hf) fun v' h' n' ⟨hh, c⟩ => ?_
  rcases hh with ⟨a, b, i'⟩ | ⟨w, a, b, e, i'⟩
  · exact ⟨(c.w q t).1, .inl ⟨a, b, ⟨⟨_, _, i', (c.w q t).2⟩, g⟩⟩⟩
  · exact ⟨(c.w q t).1, .inr ⟨w, a, b, e, ⟨⟨_, _, i', (c.w q t).2⟩, fun u hu => g u (JC hu)⟩⟩⟩
theorem aC2 (aO : List UInt8) (pn made s : Int) (b : List UInt8) (hl : aO.length = 32) (hbl : b.length = 32) (hs : Ixw K T h n x L) (hc : L.length ≤ 900000) (hf : bG h n) :
    Wp (bM env (aY env) 36 [.ptr x 0, .agg (aX aO pn), .int .i64 made, .int .i64 s, .agg (b.map u8)]) h n fun v' h' n' => (∀ j, K j → h' j = h j) ∧
      (((∀ w ∈ L, gM w (key aO pn made) = 0 → (w.cV ≠ 0 ∨ s < 1 ∨ s < made)) ∧ v' = .int .i64 210 ∧ Ixw K T h' n' x L) ∨
      (∃ w ∈ L, gM w (key aO pn made) = 0 ∧ w.cV = 0 ∧ 1 ≤ s ∧ made ≤ s ∧ v' = .int .i64 0 ∧ Ixw K T h' n' x (zA L w (iU w s b)))) := by
  have rL := hs.rL
  obtain ⟨⟨D, M, i, q, t⟩, g⟩ := hs
  refine dL (f36 x aO pn made s b hl hbl L D M h n i hc hf) fun v' h' n' hh => ?_
  rcases hh with ⟨a, e, i', c⟩ | ⟨w, hw, a1, a2, a3, a4, e, D', M', i', c⟩
  · exact ⟨(c.w q t).1, .inl ⟨a, e, ⟨⟨_, _, i', (c.w q t).2⟩, g⟩⟩⟩
  · rw [HC rL hw] at i'
    refine ⟨(c.w q t).1, .inr ⟨w, hw, a1, a2, a3, a4, e, ⟨⟨_, _, i', (c.w q t).2⟩, fun u hu => ?_⟩⟩⟩
    rcases wS hu with rfl | hu
    · exact AG (g w hw) (.inr ⟨a3, by rw [(AI a1).2.2]; exact a4⟩)
    · exact g u hu
theorem aC1 (aO : List UInt8) (pn made : Int) (hl : aO.length = 32) (hs : Ixw K T h n x L) (hc : L.length ≤ 900000) (hf : bG h n) :
    Wp (bM env (aY env) 38 [.ptr x 0, .agg (aX aO pn), .int .i64 made]) h n fun v' h' n' => (∀ j, K j → h' j = h j) ∧
      (((∀ w ∈ L, gM w (key aO pn made) = 0 → w.cV = 0) ∧ v' = .int .i64 210 ∧ Ixw K T h' n' x L) ∨
      (∃ w ∈ L, gM w (key aO pn made) = 0 ∧ w.cV ≠ 0 ∧ v' = .int .i64 0 ∧ Ixw K T h' n' x (zA L w (iU w 0 z32)))) := by
  have rL := hs.rL
  obtain ⟨⟨D, M, i, q, t⟩, g⟩ := hs
  refine dL (f38 x aO pn made hl L D M h n i hc hf) fun v' h' n' hh => ?_
  rcases hh with ⟨a, e, i', c⟩ | ⟨w, hw, a1, a2, e, D', M', i', c⟩
  · exact ⟨(c.w q t).1, .inl ⟨a, e, ⟨⟨_, _, i', (c.w q t).2⟩, g⟩⟩⟩
  · rw [HC rL hw] at i'
    refine ⟨(c.w q t).1, .inr ⟨w, hw, a1, a2, e, ⟨⟨_, _, i', (c.w q t).2⟩, fun u hu => ?_⟩⟩⟩
    rcases wS hu with rfl | hu
    · exact AG (g w hw) (.inl rfl)
    · exact g u hu
theorem Ixw.k (s : Ixw K T h n x L) : Ixk (fun _ => False) h n x L := by
  obtain ⟨⟨D, M, i, q, t⟩, g⟩ := s
  exact ⟨⟨D, M, i, fun j q => q.elim⟩, g⟩
theorem z4 {E : Env} {h : Hp} {n : Nat} {t t2 e : TypeId} {i : TI} {s x : a9} {cnt k : Nat} {xs ys : List a9} (hs : Lst h e i.size s cnt xs) (hx : Rds h i.size x k ys)
    (ht : und E t = M.pure (.slice e)) (ht2 : und E t2 = M.pure (.slice e)) (hi : ti E e = M.pure i) (hk : 0 < k)
    (hroom : 2 * (cnt + k) * i.bytes ≤ 281474976710656) (hroom2 : cnt + k ≤ 281474976710656) :
    Wp (gH E [t, t2] (y8 cnt s) x) h n fun v' h' n' => v' = .sl n 0 (cnt + k) none i.size ∧ h' = upd h n (some (.row (.l (xs ++ ys)) e)) ∧ n' = n + 1 := by
  simp only [gH, ht2, aB, eJ, append, ht, hi, hx.len, hU]
  have hk0 : k.beq 0 = false := kU (by omega)
  simp only [hk0]
  refine fL hx.cells ?_
  have r1 : ((2 * (cnt + k) * i.bytes).ble room && (cnt + k).ble room) = true := by
    unfold room
    rw [dS hroom, dS hroom2]; rfl
  have hc := hs.cut (Nat.le_refl cnt)
  rw [List.take_of_length_le (by rw [hs.rds.length]; exact Nat.le_refl _)] at hc
  have hrd := hc.rds.cells (n := n)
  cases hs with
  | nil =>
    rw [Nat.zero_add] at r1
    simp only [y8, iS, fP, hO, aM, r1, List.nil_append, Nat.zero_add, and_self]
  | sl id cnt cap cells xs hh hl hcc hxs =>
    have hf2 : (cnt + k).ble cnt = false := iL (by omega)
    simp only [y8, bE, Nat.beq_refl, fW, hh, Option.some.injEq, exists_eq_left', cT, hU, hf2]
    refine fL hrd ?_
    simp only [iS, fP, hO, aM, r1, and_self]
structure Inf where
  bR : Int
  block : List UInt8
  jV : Int
  jI : Int
  fU : Int
  left : Int
def bQ (i : Inf) : List a9 := .int .i64 i.bR :: (i.block.map u8 ++ [.int .i64 i.jV, .int .i64 i.jI, .int .i64 i.fU, .int .i64 i.left])
def eN : Inf := ⟨0, z32, 0, 0, 0, 0⟩
theorem bV {i : Inf} (hb : i.block.length = 32) : (bQ i).length = 37 := by simp [bQ, hb]
theorem eM (i : Inf) : (bQ i).all bI = true := by
  unfold bQ
  rw [List.all_cons, List.all_append, List.all_map]
  simp [u8, bI]
theorem mI {i : Inf} (hb : i.block.length = 32) (k : Nat) : (bQ i)[33 + k]? = [a9.int .i64 i.jV, .int .i64 i.jI, .int .i64 i.fU, .int .i64 i.left][k]? := by
  unfold bQ
  rw [show 33 + k = 32 + k + 1 by omega, List.getElem?_cons_succ, List.getElem?_append_right (by simp [hb]), List.length_map, hb]
  congr 1; omega
structure IL (h : Hp) (v : a9) (I : List Inf) : Prop where
  ex : ∃ cells, Lst h 61 37 v I.length cells ∧ ∀ (j : Nat) (hj : j < I.length), (cells.drop (j * 37)).take 37 = bQ I[j] ∧ I[j].block.length = 32
theorem IL.aS {h h' : Hp} {v : a9} {I : List Inf} (l : IL h v I) (hk : ∀ j, bB v = some j → h' j = h j) : IL h' v I := by
  obtain ⟨cells, c1, c2⟩ := l
  exact ⟨cells, c1.aS hk, c2⟩
theorem u57 : und env 57 = M.pure (.slice 61) := rfl
theorem SZ : sizeOf env 61 = M.pure 37 := rfl
theorem IL.len {h : Hp} {v : a9} {I : List Inf} (l : IL h v I) {ts : List TypeId} : dD env (57 :: ts) v = M.pure (.int .i64 (I.length : Nat)) := by
  obtain ⟨cells, c1, c2⟩ := l
  exact c1.rds.dD u57
theorem IL.kind {h : Hp} {v : a9} {I : List Inf} (l : IL h v I) : v.cells = [v] ∧ bI v = true ∧ dV v = false := by
  obtain ⟨cells, c1, c2⟩ := l
  exact c1.rds.kind
theorem IL.idx {h : Hp} {v : a9} {I : List Inf} (l : IL h v I) {i : Nat} (hi : i < I.length) {h' : Hp} {n' : Nat} : Rd (indexAddr env 57 v (.int .i64 ((i : Nat) : Int))) h' n' [] (dB (i * 37) v) := by
  obtain ⟨cells, c1, c2⟩ := l
  exact c1.rds.idx u57 SZ rfl hi
theorem IL.all {h : Hp} {n : Nat} {v : a9} {I : List Inf} (l : IL h v I) {i : Nat} (hi : i < I.length) : I[i].block.length = 32 ∧ Rd (load env 61 (dB (i * 37) v)) h n (rid v) (.agg (bQ I[i])) := by
  obtain ⟨cells, c1, c2⟩ := l
  obtain ⟨e, o⟩ := c2 i hi
  refine ⟨o, ?_⟩
  have hl : cells.length = I.length * 37 := c1.rds.length
  have := c1.rds.agg (E := env) (n := n) (k := i * 37) gJ rfl (by decide) (by show i * 37 + 37 ≤ _; omega)
  have e' : (cells.drop (i * 37)).take 37 = bQ I[i] := e
  exact e' ▸ this
theorem IL.nil {h : Hp} : IL h .aV [] := ⟨[], .nil, fun j hj => by simp at hj⟩
structure St (W : Nat → Prop) (h : Hp) (n s : Nat) (L : List Ver) (I : List Inf) : Prop where
  ex : ∃ x lv, Row h s [.ptr x 0, lv] ∧ Ixw W W h n x L ∧ IL h lv I ∧ (∀ j, bB lv = some j → j < n ∧ ¬ W j) ∧ W s ∧ ∀ j, W j → j < n
theorem St.sn {W : Nat → Prop} {h : Hp} {n s : Nat} {L : List Ver} {I : List Inf} (q : St W h n s L I) : s < n := by
  obtain ⟨x, lv, r, i, l, a, b, c⟩ := q
  exact c s b
theorem St.next {W : Nat → Prop} {h h' : Hp} {n n' s : Nat} {L : List Ver} {I : List Inf} (q : St W h n s L I) (hn : n ≤ n') (hk : ∀ j, j < n → (j = s ∨ ¬ W j) → h' j = h j) : St W h' n' s L I := by
  obtain ⟨x, lv, r, ⟨⟨D, M, i, k, t⟩, g⟩, l, a, b, c⟩ := q
  have in_ : ∀ j, j < n → (D j ∨ M j) → h' j = h j := fun j hj w => hk j hj (.inr fun y => by
    rcases w with w | w
    · exact (t j y).2 w
    · exact (k j y).2 w)
  exact ⟨x, lv, r.aS (hk s (c s b) (.inl rfl)), ⟨⟨D, M, i.oU hn in_, fun j y => ⟨by have := c j y; omega, (k j y).2⟩, fun j y => ⟨by have := c j y; omega, (t j y).2⟩⟩, g⟩, l.aS fun j y => hk j (a j y).1 (.inr (a j y).2), fun j y => ⟨by have := (a j y).1; omega, (a j y).2⟩, b, fun j y => by have := c j y; omega⟩
theorem St.old {W : Nat → Prop} {h h' : Hp} {n n' s : Nat} {L : List Ver} {I : List Inf} (q : St W h n s L I) (hn : n ≤ n') (ho : Old h h' n) : St W h' n' s L I := q.next hn fun j hj _ => ho j hj
theorem f66 (s x : Nat) (lv : a9) (h : Hp) (n : Nat) (hr : Row h s [.ptr x 0, lv]) : Wp (bM env (aY env) 66 [.ptr s 0]) h n fun v' h' n' => v' = .bool false ∧ h' = h ∧ n' = n := by
  refine aZ J3 J2 ?_
  simp only [zI, Try.f66, Option.getD_some, List.replicate, tyr, fgr, bor, aR, dE, aQ, aU, equal, cL, bT, bU, Nat.reduceSub, gE]
  rw [aI (hr.one (off := 0) rfl oC rfl)]
  simp only [tyr, fgr, bor, aR, dE, aT, aU, equal, cL, bT, bU, gE]
theorem aB7 (h : Hp) (n : Nat) : Wp (bM env (aY env) 66 [.dP]) h n fun v' h' n' => v' = .bool true ∧ h' = h ∧ n' = n := by
  refine aZ J3 J2 ?_
  simp only [zI, Try.f66, Option.getD_some, List.replicate, tyr, fgr, bor, aR, dE, aT, aU, equal, cL, bT, bU, Nat.reduceSub, gE]
theorem aB5 (s : Nat) (lv : a9) (h : Hp) (n : Nat) (hr : Row h s [.dP, lv]) : Wp (bM env (aY env) 66 [.ptr s 0]) h n fun v' h' n' => v' = .bool true ∧ h' = h ∧ n' = n := by
  refine aZ J3 J2 ?_
  simp only [zI, Try.f66, Option.getD_some, List.replicate, tyr, fgr, bor, aR, dE, aQ, aU, equal, cL, bT, bU, Nat.reduceSub, gE]
  rw [aI (hr.one (off := 0) rfl oC rfl)]
  simp only [tyr, fgr, bor, aR, dE, aT, aU, equal, cL, bT, bU, gE]
theorem Q7 (s x : Nat) (lv : a9) (I : List Inf) (h : Hp) (n : Nat) (hr : Row h s [.ptr x 0, lv]) (hi : IL h lv I) (hc : I.length ≤ 1000000) : Rd (Ins.yW [.ptr s 0]) h n [s] (.int .i64 ((I.length : Nat) - 1)) := by
  obtain ⟨t, hr⟩ := hr
  obtain ⟨cells, c1, c2⟩ := hi
  have key : Rd ((fT s).bind (cT fun c _ => match c with
          | .l cs => match cs with
            | [x, lv] => match x with
              | .ptr _ _ => match lv with
                | .aV => M.pure (a9.int .i64 (-1))
                | .sl _ _ len _ _ => match len.ble 1000000 with
                  | true => M.pure (.int .i64 ((len : Nat) - 1))
                  | false => bF "Tip"
                | _ => bF "Tip"
              | _ => bF "Tip"
            | _ => bF "Tip"
          | _ => bF "Tip")) h n ([] ++ [s]) (.int .i64 ((I.length : Nat) - 1)) := by
    refine Rd.bind (Rd.get hr) ?_
    clear c2; generalize hI : I.length = len at *
    cases c1 with
    | nil => exact Rd.pure _
    | sl id cnt cap cells xs hh hl hcc hx =>
      simp only [cT, dS hc]
      exact Rd.pure _
  exact key
theorem UG {W : Nat → Prop} {h : Hp} {n s : Nat} {L : List Ver} {I : List Inf} (q : St W h n s L I) (hc : I.length ≤ 1000000) : Rd (Ins.yW [.ptr s 0]) h n [s] (.int .i64 ((I.length : Nat) - 1)) := by
  obtain ⟨x, lv, r, i, l, a, b, c⟩ := q
  exact Q7 s x lv I h n r l hc
theorem f70 (v : a9) (I : List Inf) (h0 h : Hp) (n : Nat) (hv : IL h0 v I) : Wp (bM env (aY env) 70 [v]) h n fun v' h' n' => v' = y8 I.length v ∧ h' = h ∧ n' = n := by
  refine aZ ay8 ao2 ?_
  simp only [W0, Try.f70, Option.getD_some, List.replicate, fgr, opt, builtin, Nat.reduceSub, hv.len, gE]
  obtain ⟨cells, c1, c2⟩ := hv
  rw [aI (c1.X8 u57 SZ rfl (Nat.le_refl _))]
  simp only [fgr, gE]
theorem VC {h : Hp} {v : a9} {I : List Inf} {cells : List a9} (c1 : Lst h 61 37 v I.length cells) (c2 : ∀ (j : Nat) (hj : j < I.length), (cells.drop (j * 37)).take 37 = bQ I[j] ∧ I[j].block.length = 32) : cells.all bI = true := by
  rw [List.all_eq_true]
  intro c hc
  obtain ⟨k, hk, rfl⟩ := List.mem_iff_getElem.1 hc
  have hl : cells.length = I.length * 37 := c1.rds.length
  have hj : k / 37 < I.length := by omega
  have e := (c2 (k / 37) hj).1
  have hp := GG e (i := k % 37) (by omega)
  rw [show k / 37 * 37 + k % 37 = k by omega, List.getElem?_eq_getElem hk] at hp
  exact List.all_eq_true.1 (eM I[k / 37]) _ (List.mem_of_getElem? hp.symm)
theorem f71 (v : a9) (I : List Inf) (h : Hp) (n : Nat) (hv : IL h v I) (hc : I.length ≤ 1000000) (hf : bG h n) :
    Wp (bM env (aY env) 71 [v]) h n fun v' h' n' => IL h' v' I ∧ (∀ j, bB v' = some j → n ≤ j ∧ j < n') ∧ Old h h' n := by
  obtain ⟨cells, c1, c2⟩ := hv
  have h1 := VC c1 c2
  refine aZ ay7 ao1 ?_
  obtain ⟨en, en2⟩ := c1.DL u57
  simp only [VZ, Try.f71, Option.getD_some, List.replicate, fgr, Nat.reduceSub, en, gE]
  cases hnil : mG v with
  | true =>
    obtain ⟨e1, e2, e3⟩ := en2 hnil
    have : I = [] := List.eq_nil_of_length_eq_zero e2
    subst this
    simp only [fgr, gE]
    exact ⟨.nil, (fun j q => by cases q), Old.refl _ _⟩
  | false =>
    simp only [tyr, buildSlice, fS, fill, Nat.ble, gE]
    refine fD gJ hf (f := fun id => a9.sl id 0 0 (some 0) 37) fun H r o f => ?_
    simp only [builtin, gE]
    have c1' := c1.aS (h' := H) fun j q => o j (by have := c1.eT hf q; omega)
    refine j3 (i := uD.i) (e := 61) (cnt := 0) (xs := []) (.sl n 0 (some 0) [] [] r (by simp) (fun k hk => by injection hk with hk; subst hk; simp) (by simp)) c1'.rds u57 u57 gJ h1 (by decide) (by show 2 * (0 + I.length) * 72 ≤ _; omega) (by omega) f ?_
    intro v' h' n' hn' f' l' hid hk
    simp only [fgr, gE]
    rw [Nat.zero_add, List.nil_append] at l'
    refine ⟨⟨cells, l', c2⟩, fun j q => ?_, fun j hj => ?_⟩
    · rcases hid with w | ⟨w, w2⟩
      · rw [w] at q; injection q with q; subst q; exact ⟨Nat.le_refl _, by omega⟩
      · rw [w] at q; injection q with q; subst q; exact ⟨by omega, w2⟩
    · rw [hk j (by omega) (fun e => by injection e with e; omega), o j (by omega)]
theorem f26 (W : Nat → Prop) (h : Hp) (n : Nat) (hf : bG h n) (hw : ∀ j, W j → j < n) : Wp (bM env (aY env) 26 []) h n fun v' h' n' => ∃ s, v' = .ptr s 0 ∧ n ≤ s ∧ St (fun j => W j ∨ j = s) h' n' s [] [] ∧ Old h h' n := by
  refine aZ aA6 aq4 ?_
  simp only [WJ, Try.f26, Option.getD_some, List.replicate, fgr, hkr, Nat.reduceSub, gE]
  refine aJ hf (f40 h n hf) fun v1 h1 n1 hn1 f1 ⟨x, e1, hx, i1, o1⟩ => ?_
  subst e1
  have b59 : build env 59 [(0, .ptr x 0)] = M.pure (.agg [.ptr x 0, .aV]) := rfl
  simp only [b59, gE]
  refine dU (v := .agg [.ptr x 0, .aV]) HV rfl f1 fun H2 r2 o2 f2 => ?_
  simp only [fgr, gE]
  replace r2 : Row H2 n1 [.ptr x 0, .aV] := r2
  have xlt := i1.xlt
  refine ⟨n1, rfl, by omega, ⟨x, .aV, r2, ⟨⟨_, _, i1.old (by omega) (fun j hj => o2 j (by omega)), fun j y => ⟨?_, fun w => ?_⟩, fun j y => ⟨?_, fun w => w⟩⟩, fun v hv => by cases hv⟩, .nil, (fun j y => by cases y), .inr rfl, fun j y => ?_⟩, fun j hj => by rw [o2 j (by omega), o1 j hj]⟩
  · rcases y with y | y
    · have := hw j y; omega
    · omega
  · rcases y with y | y
    · have := hw j y; omega
    · omega
  · rcases y with y | y
    · have := hw j y; omega
    · omega
  · rcases y with y | y
    · have := hw j y; omega
    · omega
end Go.Am.Ytlgebaofkolkoaa
set_option linter.unusedSimpArgs false
set_option linter.unusedVariables false
set_option linter.defProp false
set_option maxRecDepth 10000
namespace Go.Am.Ytlgebaofkolkoaa
open Go Go.Am Go.Proofs
theorem f24 {W : Nat → Prop} {h : Hp} {n s : Nat} {L : List Ver} {I : List Inf} (q : St W h n s L I) (hc : L.length ≤ 900000) (hf : bG h n) :
    Wp (bM env (aY env) 24 [.ptr s 0]) h n fun v' h' n' => VL h' n n' v' L ∧ Old h h' n := by
  obtain ⟨x, lv, r, i, l, a, b, c⟩ := q
  refine aZ ad2 ZM ?_
  simp only [R1, Try.f24, Option.getD_some, List.replicate, fgr, hkr, Nat.reduceSub, gE]
  refine dA (f66 s x lv h n r) ?_
  simp only [tyr, fgr, aQ, gE]
  rw [aI (r.one (off := 0) rfl oC rfl)]
  simp only [hkr, gE]
  refine aJ hf (af3 i.k hc hf) fun v1 h1 n1 hn1 f1 ⟨l1, o1⟩ => ?_
  simp only [fgr, gE]
  exact ⟨l1, o1⟩
theorem QL (Q : fC) (ks : List Kf) (Y lv : a9) (c s x : Nat) (I : List Inf) (hc : I.length ≤ 1000000) (P : Nat → Hp → Nat → Prop) (R : Hp → Nat → Prop)
    (hP : ∀ k h n, P k h n → Row h c [.ptr s 0] ∧ Row h s [.ptr x 0, lv] ∧ IL h lv I ∧ bG h n)
    (hY : ∀ (k : Nat) (hk : k < I.length) (h : Hp) (n : Nat), P k h n → Wp (kG env (aY env) Y [.agg (bQ I[k])]) h n fun v' h' n' => (yes true v' ∧ P (k + 1) h' n') ∨ (yes false v' ∧ R h' n'))
    (hT : ∀ (h : Hp) (n : Nat) (tm : List a9), P I.length h n → eR env 102 none Q ks (.exit 0) tm h n)
    (hR : ∀ (h : Hp) (n : Nat) (tm : List a9), R h n → eR env 102 none Q ks .ret tm h n) :
    ∀ (m i : Nat) (h : Hp) (n : Nat) (x3 x10 x21 : a9), i + m = I.length → P i h n →
      Run env 102 none Q (.loop BE) ks (Y :: .ptr c 0 :: a9.aA :: x3 :: a9.aA :: a9.aA :: a9.aA :: a9.aA :: .int .i64 (I.length : Nat) :: .int .i64 (i : Nat) :: x10 :: a9.aA :: a9.aA :: a9.aA :: a9.aA :: a9.aA :: a9.aA :: a9.aA :: a9.aA :: a9.aA :: a9.aA :: x21 :: a9.aA :: []) h n := by
  intro m
  induction m with
  | zero =>
    intro i h n x3 x10 x21 hm hp
    have : i = I.length := by omega
    subst this
    rw [cY]
    have hcc : ¬ (((I.length : Nat) : Int) < ((I.length : Nat) : Int)) := by omega
    simp only [BE, c8, Try.f102, Option.getD_some, fgr, bor, List.getD_cons_zero, hcc, gE]
    exact hT h n _ hp
  | succ m ih =>
    intro i h n x3 x10 x21 hm hp
    obtain ⟨rc, rs, il, hf⟩ := hP i h n hp
    have hil : i < I.length := by omega
    have hcc : (((i : Nat) : Int) < ((I.length : Nat) : Int)) := by omega
    have w1 : IntKind.i64.wrap (((i : Nat) : Int) + 1) = ((i + 1 : Nat) : Int) := by rw [w64 (by omega) (by omega)]; omega
    have hYi := hY i hil
    obtain ⟨ok, hld⟩ := il.all (n := n) hil
    rw [cY]
    simp only [BE, c8, Try.f102, Option.getD_some, fgr, bor, List.getD_cons_zero, hcc, gE]
    rw [aI (rc.one (off := 0) rfl HX rfl)]
    simp only [tyr, aQ, gE]
    rw [aI (rs.one (off := 1) rfl sP rfl)]
    simp only [gE]
    rw [aI (il.idx hil)]
    simp only [gE]
    rw [aI hld]
    simp only [gE]
    refine aJ hf (hYi h n hp) fun v4 h4 n4 hn4 f4 hh => ?_
    rcases hh with ⟨e4 | e4, hp4⟩ | ⟨e4 | e4, hr4⟩
    · subst e4
      simp only [fgr, bor, bS, unOp, w1, gE]
      exact ih (i + 1) h4 n4 _ _ _ (by omega) hp4
    · subst e4
      simp only [fgr, bor, bS, unOp, w1, gE]
      exact ih (i + 1) h4 n4 _ _ _ (by omega) hp4
    · subst e4
      simp only [fgr, unOp, gE]
      exact hR h4 n4 _ hr4
    · subst e4
      simp only [fgr, unOp, gE]
      exact hR h4 n4 _ hr4
theorem f102 (Y lv : a9) (c s x : Nat) (I : List Inf) (h : Hp) (n : Nat) (hc : I.length ≤ 1000000) (P : Nat → Hp → Nat → Prop) (R : Hp → Nat → Prop) (h0 : P 0 h n)
    (hP : ∀ k h n, P k h n → Row h c [.ptr s 0] ∧ Row h s [.ptr x 0, lv] ∧ IL h lv I ∧ bG h n)
    (hY : ∀ (k : Nat) (hk : k < I.length) (h : Hp) (n : Nat), P k h n → Wp (kG env (aY env) Y [.agg (bQ I[k])]) h n fun v' h' n' => (yes true v' ∧ P (k + 1) h' n') ∨ (yes false v' ∧ R h' n')) :
    Wp (bM env (aY env) 102 [Y, .ptr c 0]) h n fun v' h' n' => v' = .tup [] ∧ (P I.length h' n' ∨ R h' n') := by
  obtain ⟨rc, rs, il, hf⟩ := hP 0 h n h0
  refine aZ ae9 aa3 ?_
  simp only [NH, Try.f102, Option.getD_some, List.replicate, Nat.reduceAdd, Nat.reduceSub, gE]
  rw [aI (rc.one (off := 0) rfl HX rfl)]
  simp only [tyr, aQ, gE]
  rw [aI (rs.one (off := 1) rfl sP rfl)]
  simp only [fgr, builtin, il.len, gE]
  refine QL _ _ Y lv c s x I hc P R hP hY ?_ ?_ I.length 0 h n _ _ _ (by omega) h0
  · intro h4 n4 tm p4
    simp only [bP, true_and]
    exact .inl p4
  · intro h4 n4 tm r4
    simp only [bP, true_and]
    exact .inr r4
theorem f72 (s : Nat) (h : Hp) (n : Nat) (hf : bG h n) : Wp (bM env (aY env) 72 [.ptr s 0]) h n fun v' h' n' => v' = .fn (.func 102) [] [.ptr n 0] ∧ Row h' n [.ptr s 0] ∧ (∀ j, j ≠ n → h' j = h j) ∧ n' = n + 1 := by
  refine aZ ay6 ao0 ?_
  simp only [VY, Try.f72, Option.getD_some, List.replicate, Nat.reduceSub, gE]
  refine dU (v := .ptr s 0) HX rfl hf fun H1 r1 o1 f1 => ?_
  simp only [fgr, gE]
  exact ⟨r1, o1⟩
def gS (I : List Inf) (z : Int) : Option Inf := I.find? fun i => decide (i.bR = z)
theorem IQ {I : List Inf} {z : Int} (h : ∀ i (hi : i < I.length), I[i].bR ≠ z) : gS I z = none := by
  unfold gS
  rw [List.find?_eq_none]
  intro i hi
  obtain ⟨k, hk, rfl⟩ := List.mem_iff_getElem.1 hi
  simpa using h k hk
theorem IP {I : List Inf} {z : Int} {k : Nat} (hk : k < I.length) (h : ∀ i (hi : i < I.length), i < k → I[i].bR ≠ z) (hz : I[k].bR = z) : gS I z = some I[k] := by
  unfold gS
  rw [List.find?_eq_some_iff_getElem]
  exact ⟨by simpa using hz, k, hk, rfl, fun j hj => by simpa using h j (by omega) hj⟩
def mH (o : Option Inf) : Int := match o with
  | some _ => 0
  | none => 221
noncomputable def L25 (tm : List a9) : lE := { state := .ready, pending := none, fn := 25, tmps := tm, params := [14], assign := LF, body := L9 }
theorem fA : eN.block.length = 32 := rfl
theorem f25 {W : Nat → Prop} {h : Hp} {n s : Nat} {L : List Ver} {I : List Inf} (q : St W h n s L I) (z : Int) (hc : I.length ≤ 1000000) (hf : bG h n) :
    Wp (bM env (aY env) 25 [.ptr s 0, .int .i64 z]) h n fun v' h' n' => v' = .tup [.agg (bQ ((gS I z).getD eN)), .int .i64 (mH (gS I z))] ∧ ((gS I z).getD eN).block.length = 32 ∧ Old h h' n := by
  obtain ⟨x, lv, r, i, il, a, b, c⟩ := q
  have sn := c s b
  refine aZ ad1 ZL ?_
  simp only [R0, Try.f25, Option.getD_some, List.replicate, Nat.reduceAdd, Nat.reduceSub, gE]
  refine dU (v := .int .i64 z) ti3 rfl hf fun H1 r1 o1 f1 => ?_
  replace r1 : Row H1 n [.int .i64 z] := r1
  simp only [gE]
  rw [cD gJ rfl]
  obtain ⟨H2, hH2⟩ : ∃ H2, H2 = upd H1 (n + 1) (some (.row (.l (bQ eN)) 61)) := ⟨_, rfl⟩
  have g2 : H2 (n + 1) = some (.row (.l (bQ eN)) 61) := by rw [hH2, aP]
  have o2 : ∀ j, j ≠ n + 1 → H2 j = H1 j := fun j hj => by rw [hH2, aG _ _ hj]
  have f2 : bG H2 (n + 1 + 1) := by rw [hH2]; exact f1.new
  show Ops _ _ _ _ _ _ _ _ (upd H1 (n + 1) (some (.row (.l (bQ eN)) 61))) _
  rw [← hH2]
  clear hH2
  have rs2 : Row H2 s [.ptr x 0, lv] := (r.aS (o1 s (by omega))).aS (o2 s (by omega))
  simp only [fgr, hkr, gE]
  refine dA (f66 s x lv H2 (n + 1 + 1) rs2) ?_
  simp only [fgr, gE]
  rw [cD gJ rfl]
  obtain ⟨H3, hH3⟩ : ∃ H3, H3 = upd H2 (n + 1 + 1) (some (.row (.l (bQ eN)) 61)) := ⟨_, rfl⟩
  have g3 : H3 (n + 1 + 1) = some (.row (.l (bQ eN)) 61) := by rw [hH3, aP]
  have o3 : ∀ j, j ≠ n + 1 + 1 → H3 j = H2 j := fun j hj => by rw [hH3, aG _ _ hj]
  have f3 : bG H3 (n + 1 + 1 + 1) := by rw [hH3]; exact f2.new
  show Ops _ _ _ _ _ _ _ _ (upd H2 (n + 1 + 1) (some (.row (.l (bQ eN)) 61))) _
  rw [← hH3]
  clear hH3
  simp only [fgr, gE]
  rw [cD C9 rfl]
  simp only [cel, gE]
  refine dM (v := .int .i64 221) C9 rfl rfl rfl f3 fun H4 r4 o4 f4 => ?_
  replace r4 : Row H4 (n + 1 + 1 + 1) [.int .i64 221] := r4
  simp only [fgr, hkr, gE]
  refine aJ f4 (f72 s H4 (n + 1 + 1 + 1 + 1) f4) fun v5 h5 n5 hn5 f5 ⟨e5, r5, o5, en5⟩ => ?_
  subst e5; subst en5
  simp only [bP, fgr, bX, put, aE]
  refine lS (g := 102) (first := []) (cap := [.ptr (n + 1 + 1 + 1 + 1) 0]) rfl rfl ?_
  let TM : List a9 := (.ptr s 0 :: .int .i64 z :: a9.aA :: .ptr n 0 :: .ptr (n + 1) 0 :: .int .i64 0 :: .ptr (n + 1 + 1) 0 :: .ptr (n + 1 + 1 + 1) 0 :: undef :: a9.aA :: .bool false :: a9.aA :: a9.aA :: .fn (.func 102) [] [.ptr (n + 1 + 1 + 1 + 1) 0] :: undef :: a9.aA :: a9.aA :: a9.aA :: undef :: a9.aA :: a9.aA :: a9.aA :: [])
  obtain ⟨H7, hH7⟩ : ∃ H7, H7 = upd h5 (n + 1 + 1 + 1 + 1 + 1) (some (Blk.loop (L25 TM))) := ⟨_, rfl⟩
  show Wp (gX env (aY env) 102 [a9.fn (Fn.yield (n + 1 + 1 + 1 + 1 + 1)) [] [], a9.ptr (n + 1 + 1 + 1 + 1) 0]) (upd h5 (n + 1 + 1 + 1 + 1 + 1) (some (Blk.loop (L25 TM)))) (n + 1 + 1 + 1 + 1 + 1 + 1) _
  rw [ZD, ← hH7]
  have f7 : bG H7 (n + 1 + 1 + 1 + 1 + 1 + 1) := by rw [hH7]; exact f5.new
  have o7 : ∀ j, j ≠ n + 1 + 1 + 1 + 1 + 1 → H7 j = h5 j := fun j hj => by rw [hH7, aG _ _ hj]
  have g7 : H7 (n + 1 + 1 + 1 + 1 + 1) = some (.loop (L25 TM)) := by rw [hH7, aP]
  clear hH7
  have old7 : ∀ j, j < n → H7 j = h j := fun j hj => by rw [o7 j (by omega), o5 j (by omega), o4 j (by omega), o3 j (by omega), o2 j (by omega), o1 j (by omega)]
  have z7 : Row H7 n [.int .i64 z] := ((((r1.aS (o2 _ (by omega))).aS (o3 _ (by omega))).aS (o4 _ (by omega))).aS (o5 _ (by omega))).aS (o7 _ (by omega))
  have b7 : H7 (n + 1) = some (.row (.l (bQ eN)) 61) := by rw [o7 _ (by omega), o5 _ (by omega), o4 _ (by omega), o3 _ (by omega)]; exact g2
  have c7 : H7 (n + 1 + 1) = some (.row (.l (bQ eN)) 61) := by rw [o7 _ (by omega), o5 _ (by omega), o4 _ (by omega)]; exact g3
  have d7 : Row H7 (n + 1 + 1 + 1) [.int .i64 221] := (r4.aS (o5 _ (by omega))).aS (o7 _ (by omega))
  have s7 : Row H7 (n + 1 + 1 + 1 + 1) [.ptr s 0] := r5.aS (o7 _ (by omega))
  have rs7 : Row H7 s [.ptr x 0, lv] := r.aS (old7 s sn)
  have il7 : IL H7 lv I := il.aS fun j y => old7 j (a j y).1
  refine dL (f102 (.fn (.yield (n + 1 + 1 + 1 + 1 + 1)) [] []) lv (n + 1 + 1 + 1 + 1) s x I H7 (n + 1 + 1 + 1 + 1 + 1 + 1) hc
    (fun k h1 n1 => bG h1 n1 ∧ n + 1 + 1 + 1 + 1 + 1 + 1 ≤ n1 ∧ h1 (n + 1 + 1 + 1 + 1 + 1) = some (.loop (L25 TM)) ∧ (∀ j, j < n + 1 + 1 + 1 + 1 + 1 → h1 j = H7 j) ∧ ∀ i (hi : i < I.length), i < k → I[i].bR ≠ z)
    (fun h1 n1 => ∃ (l : lE) (k : Nat) (hk : k < I.length), h1 (n + 1 + 1 + 1 + 1 + 1) = some (.loop l) ∧ l.state = .done ∧ l.pending = some (.exit 0) ∧ (∀ i (hi : i < I.length), i < k → I[i].bR ≠ z) ∧ I[k].bR = z ∧ I[k].block.length = 32 ∧ Row h1 (n + 1 + 1) (bQ I[k]) ∧ Row h1 (n + 1 + 1 + 1) [.int .i64 0] ∧ ∀ j, j < n + 1 + 1 → h1 j = H7 j)
    ⟨f7, Nat.le_refl _, g7, fun j _ => rfl, fun i _ q => by omega⟩ ?_ ?_) ?_
  · rintro k h1 n1 ⟨q1, q2, q3, q4, q5⟩
    exact ⟨s7.aS (q4 _ (by omega)), rs7.aS (q4 s (by omega)), il7.aS fun j y => q4 j (by have := (a j y).1; omega), q1⟩
  · rintro k hk h1 n1 ⟨q1, q2, q3, q4, q5⟩
    obtain ⟨bok, _⟩ := il7.all (n := n1) hk
    have hdec : ∀ i (hi : i < I.length), i < k → I[i].bR ≠ z := q5
    have hnx : ∀ i (hi : i < I.length), I[k].bR ≠ z → i < k + 1 → I[i].bR ≠ z := fun i hi hne hlt => by
      by_cases e : i = k
      · subst e; exact hne
      · exact q5 i hi (by omega)
    refine nF q3 rfl rfl ?_
    simp only [LF, List.getD_cons_zero, mD, List.zip_cons_cons, List.zip_nil_left, L25, TM, cZ, Try.f25, Option.getD_some, gE]
    rw [cD gJ rfl]
    simp only [cel, gE]
    refine dM (v := .agg (bQ I[k])) gJ rfl (bV bok) (eM _) q1 fun H8 r8 o8 f8 => ?_
    replace r8 : Row H8 n1 (bQ I[k]) := r8
    have g8 : H8 (n + 1 + 1 + 1 + 1 + 1) = some (.loop (L25 TM)) := (o8 _ (by omega)).trans q3
    simp only [bP, fgr, bX, aE, true_and]
    refine ⟨_, g8, rfl, ?_⟩
    obtain ⟨h9, hh9⟩ : ∃ h9, h9 = upd H8 (n + 1 + 1 + 1 + 1 + 1) (some (Blk.loop { L25 TM with state := .busy })) := ⟨_, rfl⟩
    have o9 : ∀ j, j ≠ n + 1 + 1 + 1 + 1 + 1 → h9 j = H8 j := fun j hj => by rw [hh9, aG _ _ hj]
    have g9 : h9 (n + 1 + 1 + 1 + 1 + 1) = some (.loop { L25 TM with state := .busy }) := by rw [hh9, aP]
    have f9 : bG h9 (n1 + 1) := by rw [hh9]; exact f8.upd (by omega)
    show Run env 25 _ _ _ _ _ (upd H8 (n + 1 + 1 + 1 + 1 + 1) (some (Blk.loop { L25 TM with state := .busy }))) (n1 + 1)
    rw [← hh9]
    clear hh9
    have to7 : ∀ j, j < n + 1 + 1 + 1 + 1 + 1 → h9 j = H7 j := fun j hj => by rw [o9 j (by omega), o8 j (by omega), q4 j hj]
    have r9 : Row h9 n1 (bQ I[k]) := r8.aS (o9 _ (by omega))
    simp only [L9, List.getD_cons_zero, cZ, Try.f25, Option.getD_some, tyr, fgr, aQ, gE]
    rw [aI (Row.one (off := 0) r9 (x := .int .i64 I[k].bR) rfl ti3 rfl)]
    simp only [gE]
    rw [aI ((z7.aS (to7 n (by omega))).one (off := 0) rfl ti3 rfl)]
    by_cases hz : I[k].bR = z
    · simp only [fgr, bor, hz, gE]
      rw [aI (Row.gT r9 gJ rfl (bV bok))]
      simp only [gE]
      rw [eS (Row.eZ (v := .agg (bQ I[k])) ((to7 (n + 1 + 1) (by omega)).trans c7) gJ (bV bok) (by rw [bV fA]; show 0 + 37 ≤ 37; omega) (eM _))]
      rw [eL (by show (bQ I[k]).length = _; rw [bV bok, bV fA])]
      obtain ⟨hX, hhX⟩ : ∃ hX, hX = upd h9 (n + 1 + 1) (some (.row (.l (bQ I[k])) 61)) := ⟨_, rfl⟩
      show Ops _ _ _ _ _ _ _ _ (upd h9 (n + 1 + 1) (some (.row (.l (bQ I[k])) 61))) _
      rw [← hhX]
      have oX : ∀ j, j ≠ n + 1 + 1 → hX j = h9 j := fun j hj => by rw [hhX, aG _ _ hj]
      have rX : Row hX (n + 1 + 1) (bQ I[k]) := ⟨61, by rw [hhX, aP]⟩
      clear hhX
      simp only [gE]
      obtain ⟨e0, hr7⟩ := d7
      have hr7' : hX (n + 1 + 1 + 1) = some (.row (.l [.int .i64 221]) e0) := by rw [oX _ (by omega), to7 _ (by omega)]; exact hr7
      rw [eS (Row.eZ (v := .int .i64 0) hr7' C9 rfl (by show 0 + 1 ≤ 1; omega) rfl)]
      obtain ⟨hA, hhA⟩ : ∃ hA, hA = upd hX (n + 1 + 1 + 1) (some (.row (.l [.int .i64 0]) e0)) := ⟨_, rfl⟩
      show Ops _ _ _ _ _ _ _ _ (upd hX (n + 1 + 1 + 1) (some (.row (.l [.int .i64 0]) e0))) _
      rw [← hhA]
      have gA : hA (n + 1 + 1 + 1 + 1 + 1) = some (.loop { L25 TM with state := .busy }) := by rw [hhA, aG _ _ (by omega), oX _ (by omega)]; exact g9
      have iA : Row hA (n + 1 + 1) (bQ I[k]) := rX.aS (by rw [hhA, aG _ _ (by omega)])
      have eA : Row hA (n + 1 + 1 + 1) [.int .i64 0] := ⟨e0, by rw [hhA, aP]⟩
      have oA : ∀ j, j < n + 1 + 1 → hA j = H7 j := fun j hj => by rw [hhA, aG _ _ (by omega), oX _ (by omega), to7 j (by omega)]
      clear hhA
      simp only [bP, aN, fgr, bX, aE]
      exact ⟨_, gA, .inr ⟨.inl rfl, _, k, hk, aP _ _ _, rfl, rfl, hdec, hz, bok, iA.upd (by omega), eA.upd (by omega), fun j hj => by rw [aG _ _ (by omega), oA j hj]⟩⟩
    · simp only [fgr, bor, hz, gE]
      exact ⟨_, g9, .inl ⟨.inl rfl, f9.upd (by omega), by omega, aP _ _ _, fun j hj => by rw [aG _ _ (by omega), to7 j hj], fun i hi hlt => hnx i hi hz hlt⟩⟩
  · rintro v5 h5' n5' ⟨e5, hh⟩
    rcases hh with ⟨q1, q2, q3, q4, q5⟩ | ⟨l, k, hk, q1, q2, q3, q4, q5, q6, q7, q8, q9⟩
    · refine ⟨_, q3, (fun q => by cases q), .normal, rfl, ?_⟩
      have hI : gS I z = none := IQ fun i hi => q5 i hi hi
      rw [hI]
      obtain ⟨hB, hhB⟩ : ∃ hB, hB = upd h5' (n + 1 + 1 + 1 + 1 + 1) (some (Blk.loop { L25 TM with state := .exhausted })) := ⟨_, rfl⟩
      have oB : ∀ j, j < n + 1 + 1 + 1 + 1 + 1 → hB j = H7 j := fun j hj => by rw [hhB, aG _ _ (by omega), q4 j hj]
      show eR env 25 _ _ _ _ _ (upd h5' (n + 1 + 1 + 1 + 1 + 1) (some (Blk.loop { L25 TM with state := .exhausted }))) _
      rw [← hhB]
      clear hhB
      have rI : Row hB (n + 1 + 1) (bQ eN) := ⟨61, (oB _ (by omega)).trans c7⟩
      have rE : Row hB (n + 1 + 1 + 1) [.int .i64 221] := d7.aS (oB _ (by omega))
      have rB : hB (n + 1) = some (.row (.l (bQ eN)) 61) := (oB _ (by omega)).trans b7
      simp only [bP]
      refine cP ⟨rfl, ?_⟩
      simp only [gE]
      rw [bJ (Row.gT rI gJ rfl (bV fA))]
      simp only [gE]
      rw [bJ (rE.one (off := 0) rfl C9 rfl)]
      simp only [Nat.reduceAdd, gE]
      refine jZ (Row.eZ (v := .agg (bQ eN)) rB gJ (bV fA) (by rw [bV fA]; show 0 + 37 ≤ 37; omega) (eM _)) ?_
      rw [eL (by rfl)]
      simp only [fgr, cel, Nat.reduceAdd, gE]
      refine ⟨(by (try simp (disch := first | assumption | omega) only [dW, gF]); repeat' (first | rfl | exact (Bool.or_eq_true _ _).mpr (.inr rfl) | refine (Bool.and_eq_true _ _).mpr ⟨?_, ?_⟩)), ?_⟩
      refine fL (Row.gT (cs := bQ eN) ⟨61, aP _ _ _⟩ gJ rfl (bV fA)) (aM.2 ?_)
      exact ⟨rfl, fA, fun j hj => by rw [aG _ _ (by omega), oB j (by omega), old7 j hj]⟩
    · refine ⟨_, q1, (fun q => by rw [q2] at q; cases q), .exit 0, by rw [q3], ?_⟩
      have hI : gS I z = some I[k] := IP hk q4 q5
      rw [hI]
      obtain ⟨hB, hhB⟩ : ∃ hB, hB = upd h5' (n + 1 + 1 + 1 + 1 + 1) (some (Blk.loop { l with state := .exhausted })) := ⟨_, rfl⟩
      have oB : ∀ j, j ≠ n + 1 + 1 + 1 + 1 + 1 → hB j = h5' j := fun j hj => by rw [hhB, aG _ _ hj]
      show eR env 25 _ _ _ _ _ (upd h5' (n + 1 + 1 + 1 + 1 + 1) (some (Blk.loop { l with state := .exhausted }))) _
      rw [← hhB]
      clear hhB
      have rI : Row hB (n + 1 + 1) (bQ I[k]) := q7.aS (oB _ (by omega))
      have rE : Row hB (n + 1 + 1 + 1) [.int .i64 0] := q8.aS (oB _ (by omega))
      have rB : hB (n + 1) = some (.row (.l (bQ eN)) 61) := by rw [oB _ (by omega), q9 _ (by omega)]; exact b7
      simp only [bP]
      refine cP ⟨rfl, ?_⟩
      simp only [gE]
      rw [bJ (Row.gT rI gJ rfl (bV q6))]
      simp only [gE]
      rw [bJ (rE.one (off := 0) rfl C9 rfl)]
      simp only [Nat.reduceAdd, gE]
      refine jZ (Row.eZ (v := .agg (bQ I[k])) rB gJ (bV q6) (by rw [bV fA]; show 0 + 37 ≤ 37; omega) (eM _)) ?_
      rw [eL (by show (bQ I[k]).length = _; rw [bV q6, bV fA])]
      simp only [fgr, cel, Nat.reduceAdd, gE]
      refine ⟨(by (try simp (disch := first | assumption | omega) only [dW, gF]); repeat' (first | rfl | exact (Bool.or_eq_true _ _).mpr (.inr rfl) | refine (Bool.and_eq_true _ _).mpr ⟨?_, ?_⟩)), ?_⟩
      refine fL (Row.gT (cs := bQ I[k]) ⟨61, aP _ _ _⟩ gJ rfl (bV q6)) (aM.2 ?_)
      exact ⟨rfl, q6, fun j hj => by rw [aG _ _ (by omega), oB j (by omega), q9 j (by omega), old7 j hj]⟩
section
variable {E : Env} {fn : FuncId} {rnd : Option Nat} {Q : fC} {ks : List Kf} {tm : List a9} {h : Hp} {n : Nat} {ops bH : List Oper} {d : Option Tmp}
theorem AB {j : Nat} {fs : List gN} {t : TypeId} {i : TI} (hi : ti E t = M.pure i) (hj : dV i.zero = false) (hf : bG h n)
    (hq : ∀ H, H n = some (.row (.l i.zero.cells) t) → (∀ k, k ≠ n → H k = h k) → bG H (n + 1) → Fe E fn rnd Q ks ops (j + 1) bH (bX tm d (.ptr n 0)) (⟨j, [], [], n, n + 1⟩ :: fs) H (n + 1)) : FeV E fn rnd Q ks ops j bH d tm fs (bW E t) h n := by
  simp only [bW, cE, hi, aB, alloc, hj]
  exact kA hi hf hq
theorem LZ (hf : bG h n) : only (fun j => decide (j < n)) h = h := funext fun j => by
  by_cases c : j < n
  · exact gW (decide_eq_true c)
  · rw [hf j (by omega)]
    exact nL (decide_eq_false c)
theorem HA {j : Nat} {fs : List gN} {m : M a9} {Q1 : a9 → Hp → Nat → Prop} (hf : bG h n) (hw : Wp m h n Q1)
    (hq : ∀ v h' n' r w, n ≤ n' → bG h' n' → Q1 v h' n' → (∀ id, id ∈ r → id < n) → (∀ id, id ∈ w → id < n) → Fe E fn rnd Q ks ops (j + 1) bH (bX tm d v) (⟨j, r, w, n, n'⟩ :: fs) h' n') : FeV E fn rnd Q ks ops j bH d tm fs m h n := by
  refine uP (fun j => decide (j < n)) hf (Q0 := Q1) (by rw [LZ hf]; exact hw) fun v h' n' r w hr hn hf' q h1 h2 h3 h4 => ?_
  have e : h' = hr := funext fun k => h1 k (by
    by_cases c : k < n
    · exact .inl (decide_eq_true c)
    · exact .inr (by omega))
  rw [← e] at q
  exact hq v h' n' r w hn hf' q (fun id hi => of_decide_eq_true (h3 id hi)) (fun id hi => of_decide_eq_true (h4 id hi))
end
def z6 (z : Int) : Int := IntKind.u64.wrap z
def DK (v : Ver) (L : List Ver) : Bool := vT v || L.any fun w => decide (gM w v = 0)
def wX (L0 : List Ver) (tip : Int) : List Ver → List Ver → Int → Option (List Ver × Int)
  | [], L, t => some (L, t)
  | v :: vs, L, t => if (atV L0 v.aO v.pn tip).isSome || DK v L then none else wX L0 tip vs (rF L v) (z6 (t + z6 v.value))
def y0 (z : Int) : List Spd → List Ver → Int → Option (List Ver × Int)
  | [], L, t => some (L, t)
  | p :: ps, L, t => match atV L p.aO p.pn z with
    | none => none
    | some w => if decide (w.cV = 0) && decide (1 ≤ z) && decide (w.made ≤ z) then y0 z ps (zA L w (iU w z p.by_)) (z6 (t - z6 w.value)) else none
theorem AF {v : Ver} {L : List Ver} : DK v L = true ↔ BK v L := by
  unfold DK BK
  rw [Bool.or_eq_true, List.any_eq_true]
  constructor
  · rintro (h | ⟨a, h1, h2⟩)
    · exact .inl h
    · exact .inr ⟨a, h1, of_decide_eq_true h2⟩
  · rintro (h | ⟨a, h1, h2⟩)
    · exact .inl h
    · exact .inr ⟨a, h1, decide_eq_true h2⟩
theorem ML (Q : fC) (ks : List Kf) (W K T : Nat → Prop) (s y c a b : Nat) (A : App) (mv sv : a9) (L0 : List Ver) (I : List Inf) (RES : Option (List Ver × Int)) (h0 : Hp) (n0 : Nat) (hKn : ∀ j, K j → j < n0) (hcK : K c)
    (hSt : ∀ h n, n0 ≤ n → (∀ j, K j → h j = h0 j) → St W h n s L0 I) (hAp : ∀ h, (∀ j, K j → h j = h0 j) → j6 h a b A mv sv) (hb : b ≤ n0) (hrc : Row h0 c (cX A mv sv))
    (hpn : ∀ v ∈ A.made, 0 ≤ v.pn) (hsl : ∀ v ∈ A.made, v.aL.length ≤ 1000000) (hI : I.length ≤ 1000000) (hL0 : L0.length ≤ 900000)
    (hT : ∀ (h : Hp) (n : Nat) (L : List Ver) (t : Int) (x2 x11 x13 x15 x16 x17 x22 x43 x51 x52 x53 x54 x80 : a9), RES = some (L, t) → (∀ j, K j → h j = h0 j) → Ixw K T h n y L → L.length ≤ 900000 → n0 ≤ n → bG h n →
      eR env 69 none Q ks (.exit 0) (.ptr s 0 :: .ptr y 0 :: x2 :: .int .u64 t :: a9.aA :: a9.aA :: .ptr c 0 :: a9.aA :: .int .u64 0 :: .bool false :: a9.aA :: x11 :: a9.aA :: x13 :: a9.aA :: x15 :: x16 :: x17 :: a9.aA :: mv :: .int .i64 (A.made.length : Nat) :: .int .i64 (A.made.length : Nat) :: x22 :: a9.aA :: a9.aA :: a9.aA :: a9.aA :: a9.aA :: a9.aA :: a9.aA :: a9.aA :: a9.aA :: a9.aA :: a9.aA :: a9.aA :: a9.aA :: a9.aA :: a9.aA :: a9.aA :: a9.aA :: a9.aA :: a9.aA :: a9.aA :: x43 :: a9.aA :: a9.aA :: a9.aA :: a9.aA :: a9.aA :: a9.aA :: a9.aA :: x51 :: x52 :: x53 :: x54 :: a9.aA :: a9.aA :: a9.aA :: a9.aA :: a9.aA :: a9.aA :: a9.aA :: a9.aA :: a9.aA :: a9.aA :: a9.aA :: a9.aA :: a9.aA :: a9.aA :: a9.aA :: a9.aA :: a9.aA :: a9.aA :: a9.aA :: a9.aA :: a9.aA :: a9.aA :: a9.aA :: a9.aA :: a9.aA :: x80 :: a9.aA :: a9.aA :: a9.aA :: a9.aA :: a9.aA :: a9.aA :: a9.aA :: []) h n)
    (hR : ∀ (h : Hp) (n : Nat) (x0 x1 x2 x3 x6 x11 x13 x15 x16 x17 x19 x20 x21 x22 x43 x51 x52 x53 x54 x80 : a9), RES = none → (∀ j, K j → h j = h0 j) → eR env 69 none Q ks .ret (x0 :: x1 :: x2 :: x3 :: a9.aA :: a9.aA :: x6 :: a9.aA :: .int .u64 0 :: .bool false :: a9.aA :: x11 :: a9.aA :: x13 :: a9.aA :: x15 :: x16 :: x17 :: a9.aA :: x19 :: x20 :: x21 :: x22 :: a9.aA :: a9.aA :: a9.aA :: a9.aA :: a9.aA :: a9.aA :: a9.aA :: a9.aA :: a9.aA :: a9.aA :: a9.aA :: a9.aA :: a9.aA :: a9.aA :: a9.aA :: a9.aA :: a9.aA :: a9.aA :: a9.aA :: a9.aA :: x43 :: a9.aA :: a9.aA :: a9.aA :: a9.aA :: a9.aA :: a9.aA :: a9.aA :: x51 :: x52 :: x53 :: x54 :: a9.aA :: a9.aA :: a9.aA :: a9.aA :: a9.aA :: a9.aA :: a9.aA :: a9.aA :: a9.aA :: a9.aA :: a9.aA :: a9.aA :: a9.aA :: a9.aA :: a9.aA :: a9.aA :: a9.aA :: a9.aA :: a9.aA :: a9.aA :: a9.aA :: a9.aA :: a9.aA :: a9.aA :: a9.aA :: x80 :: a9.aA :: a9.aA :: a9.aA :: a9.aA :: a9.aA :: a9.aA :: a9.aA :: []) h n) :
    ∀ (m i : Nat) (h : Hp) (n : Nat) (L : List Ver) (t : Int) (x2 x11 x13 x15 x16 x17 x22 x43 x51 x52 x53 x54 x80 : a9), i + m = A.made.length → wX L0 (((I.length : Nat) : Int) - 1) (A.made.drop i) L t = RES → (∀ j, K j → h j = h0 j) → Ixw K T h n y L → L.length + m ≤ 900000 → n0 ≤ n → bG h n →
      Run env 69 none Q (.loop EM) ks (.ptr s 0 :: .ptr y 0 :: x2 :: .int .u64 t :: a9.aA :: a9.aA :: .ptr c 0 :: a9.aA :: .int .u64 0 :: .bool false :: a9.aA :: x11 :: a9.aA :: x13 :: a9.aA :: x15 :: x16 :: x17 :: a9.aA :: mv :: .int .i64 (A.made.length : Nat) :: .int .i64 (i : Nat) :: x22 :: a9.aA :: a9.aA :: a9.aA :: a9.aA :: a9.aA :: a9.aA :: a9.aA :: a9.aA :: a9.aA :: a9.aA :: a9.aA :: a9.aA :: a9.aA :: a9.aA :: a9.aA :: a9.aA :: a9.aA :: a9.aA :: a9.aA :: a9.aA :: x43 :: a9.aA :: a9.aA :: a9.aA :: a9.aA :: a9.aA :: a9.aA :: a9.aA :: x51 :: x52 :: x53 :: x54 :: a9.aA :: a9.aA :: a9.aA :: a9.aA :: a9.aA :: a9.aA :: a9.aA :: a9.aA :: a9.aA :: a9.aA :: a9.aA :: a9.aA :: a9.aA :: a9.aA :: a9.aA :: a9.aA :: a9.aA :: a9.aA :: a9.aA :: a9.aA :: a9.aA :: a9.aA :: a9.aA :: a9.aA :: a9.aA :: x80 :: a9.aA :: a9.aA :: a9.aA :: a9.aA :: a9.aA :: a9.aA :: a9.aA :: []) h n := by
  intro m
  induction m with
  | zero =>
    intro i h n L t x2 x11 x13 x15 x16 x17 x22 x43 x51 x52 x53 x54 x80 hm hres hk hy hl hn hf
    have : i = A.made.length := by omega
    subst this
    rw [List.drop_length] at hres
    rw [cY]
    have hcc : ¬ (((A.made.length : Nat) : Int) < ((A.made.length : Nat) : Int)) := by omega
    simp only [EM, c8, Try.f69, Option.getD_some, fgr, bor, List.getD_cons_zero, hcc, gE]
    exact hT h n L t _ _ _ _ _ _ _ _ _ _ _ _ _ hres.symm hk hy (by omega) hn hf
  | succ m ih =>
    intro i h n L t x2 x11 x13 x15 x16 x17 x22 x43 x51 x52 x53 x54 x80 hm hres hk hy hl hn hf
    have ha := hAp h hk
    have hil : i < A.made.length := by omega
    have hcc : (((i : Nat) : Int) < ((A.made.length : Nat) : Int)) := by omega
    have w1 : IntKind.i64.wrap (((i : Nat) : Int) + 1) = ((i + 1 : Nat) : Int) := by rw [w64 (by omega) (by have := ha.ml; omega)]; omega
    obtain ⟨sw, va⟩ := ha.m.at_ hil
    rw [← List.getElem_cons_drop hil] at hres
    have hvm := List.getElem_mem hil
    have hpv := hpn _ hvm
    have hsv := hsl _ hvm
    generalize A.made[i] = v at *
    rw [cY]
    simp only [EM, c8, Try.f69, Option.getD_some, fgr, bor, List.getD_cons_zero, hcc, gE]
    rw [aI (ha.m.idx hil)]
    simp only [gE]
    rw [aI (va.all n)]
    simp only [gE]
    rw [cD eB rfl]
    simp only [cel, gE]
    have kd := va.s.kind
    refine dM (v := .agg (aK v sw)) eB rfl (bD va.ok.h va.ok.b) (cS kd.2.1) hf fun H1 r1 p1 f1 => ?_
    replace r1 : Row H1 n (aK v sw) := r1
    have O1 : Old h H1 n := fun j hj => p1 j (by omega)
    have k1 : ∀ j, K j → H1 j = h0 j := fun j q => by rw [p1 j (by have := hKn j q; omega)]; exact hk j q
    have y1 := hy.tK (n' := n + 1) (by omega) O1
    have s1 := hSt H1 (n + 1) (by omega) k1
    obtain ⟨x, lv, rs, ix, il, sa, sb, sc⟩ := s1
    simp only [bP, fgr, bX, aE]
    refine cP ⟨rfl, ?_⟩
    simp only [tyr, aQ, Nat.reduceAdd, gE]
    rw [bJ (rs.one (off := 0) rfl oC rfl)]
    simp only [tyr, aQ, Nat.reduceAdd, gE]
    rw [bJ (jN r1 va.ok)]
    simp only [hkr, Nat.reduceAdd, gE]
    rw [bJ (Q7 s x lv I H1 (n + 1) rs il hI)]
    simp only [hkr, Nat.reduceAdd, gE]
    refine HA f1 (X2 v.aO v.pn (((I.length : Nat) : Int) - 1) va.ok.h ix.k hL0 f1) fun v3 h3 n3 rr3 ww3 hn3 f3 ⟨o3, sA, e3, okA, bA, iA⟩ qr3 qw3 => ?_
    subst e3
    have csn : s < n3 := by have := sc s sb; omega
    have cr0 : ∀ id, id ∈ [s] → id < n3 ∨ n3 + 1 ≤ id := fun id q => by rw [List.mem_singleton] at q; omega
    have cr1 : ∀ id, id ∈ [n] → id < n3 ∨ n3 + 1 ≤ id := fun id q => by rw [List.mem_singleton] at q; omega
    have cr2 : ∀ id, id ∈ ([] : List Nat) → id < n3 ∨ n3 + 1 ≤ id := fun id q => by cases q
    have cr3 : ∀ id, id ∈ rr3 → id < n3 ∨ n3 + 1 ≤ id := fun id q => .inl (by have := qr3 id q; omega)
    have cw3 : ∀ id, id ∈ ww3 → id < n3 ∨ n3 + 1 ≤ id := fun id q => .inl (by have := qw3 id q; omega)
    simp only [Nat.reduceAdd, gE]
    refine AB eB rfl f3 fun H4 r4 o4 f4 => ?_
    simp only [Nat.reduceAdd, gE]
    refine jZ (Row.eZ (v := .agg (aK ((atV L0 v.aO v.pn (((I.length : Nat) : Int) - 1)).getD noV) sA)) r4 eB (bD okA.h okA.b) (by show 0 + 70 ≤ 70; omega) (cS bA.kind.2.1)) ?_
    obtain ⟨H5, hH5⟩ : ∃ H5, H5 = upd H4 n3 (some (.row (.l (cH fX.i.zero.cells 0 (a9.agg (aK ((atV L0 v.aO v.pn (((I.length : Nat) : Int) - 1)).getD noV) sA)).cells)) 31)) := ⟨_, rfl⟩
    show Fe _ _ _ _ _ _ _ _ _ _ (upd H4 n3 (some (.row (.l (cH fX.i.zero.cells 0 (a9.agg (aK ((atV L0 v.aO v.pn (((I.length : Nat) : Int) - 1)).getD noV) sA)).cells)) 31))) _
    rw [← hH5]
    have o5 : ∀ j, j ≠ n3 → H5 j = h3 j := fun j hj => by rw [hH5, aG _ _ hj, o4 j hj]
    have f5 : bG H5 (n3 + 1) := by rw [hH5]; exact f4.upd (by omega)
    clear hH5
    simp only [fgr, Nat.reduceAdd, gE]
    refine ⟨(by (try simp (disch := first | assumption | omega) only [dW, gF]); repeat' (first | rfl | exact (Bool.or_eq_true _ _).mpr (.inr rfl) | refine (Bool.and_eq_true _ _).mpr ⟨?_, ?_⟩)), ?_⟩
    have k5 : ∀ j, K j → H5 j = h0 j := fun j q => by have := hKn j q; rw [o5 j (by omega), o3 j (by omega)]; exact k1 j q
    have O5 : Old H1 H5 (n + 1) := fun j hj => by rw [o5 j (by omega), o3 j hj]
    have y5 := y1.old (n' := n3 + 1) (by omega) O5
    have r5 : Row H5 n (aK v sw) := r1.aS (O5 n (by omega))
    have b5 : Bytes H5 sw v.aL := va.s.aS fun j q => by have := va.sn j q; rw [O5 j (by omega), O1 j (by omega)]
    cases hat : (atV L0 v.aO v.pn (((I.length : Nat) : Int) - 1)).isSome with
    | true =>
      have hnone : RES = none := by rw [← hres, wX, hat]; rfl
      simp only [fgr, aT, gE]
      exact hR _ _ _ _ _ _ _ _ _ _ _ _ _ _ _ _ _ _ _ _ _ _ hnone k5
    | false =>
    simp only [gE]
    rw [aI (fI r5 va.ok)]
    simp only [hkr, gE]
    refine aJ f5 (aC4 v sw va.ok hpv hsv y5 b5 (fun j q => by have := va.sn j q; omega) (by omega) f5) fun v6 h6 n6 hn6 f6 ⟨k6, hh⟩ => ?_
    have k6' : ∀ j, K j → h6 j = h0 j := fun j q => by rw [k6 j (.inl q)]; exact k5 j q
    rcases hh with ⟨he, e6, y6⟩ | ⟨he, e6, y6⟩
    · subst e6
      have hnone : RES = none := by rw [← hres, wX, hat, AF.2 he]; rfl
      simp only [fgr, bor, aT, Int.reduceEq, gE]
      exact hR _ _ _ _ _ _ _ _ _ _ _ _ _ _ _ _ _ _ _ _ _ _ hnone k6'
    · subst e6
      have hne : DK v L = false := by
        cases e : DK v L with
        | false => rfl
        | true => exact absurd (AF.1 e) he
      rw [wX, hat, hne] at hres
      have r6 : Row h6 n (aK v sw) := r5.aS (k6 n (.inr ⟨Nat.le_refl _, by omega⟩))
      simp only [tyr, fgr, bor, aT, aQ, gE]
      rw [aI (nI r6 va.ok)]
      simp only [tyr, fgr, lenOf, bor, bS, convert, gP, oG, w1, gE]
      exact ih (i + 1) h6 n6 (rF L v) (z6 (t + z6 v.value)) _ _ _ _ _ _ _ _ _ _ _ _ _ (by omega) (by simpa using hres) k6' (y6.sub fun j q => .inl q) (by rw [LJ]; omega) (by omega) f6
theorem PC {L : List Ver} {aO : List UInt8} {pn z : Int} {w : Ver} (h : atV L aO pn z = some w) : w ∈ L ∧ w.aO = aO ∧ w.pn = pn ∧ gB w z = true := by
  unfold atV at h
  have hm := List.mem_of_getLast? h
  obtain ⟨h1, h2⟩ := List.mem_filter.1 hm
  rw [Bool.and_eq_true] at h2
  have h3 := h2.1
  unfold same at h3
  simp only [Bool.and_eq_true, decide_eq_true_eq, beq_iff_eq] at h3
  exact ⟨h1, h3.1, h3.2, h2.2⟩
theorem MK (Q : fC) (ks : List Kf) (K T : Nat → Prop) (y c a b : Nat) (A : App) (mv sv : a9) (RES : Option (List Ver × Int)) (h0 : Hp) (n0 : Nat) (hKn : ∀ j, K j → j < n0) (hcK : K c)
    (hAp : ∀ h, (∀ j, K j → h j = h0 j) → j6 h a b A mv sv) (hrc : Row h0 c (cX A mv sv))
    (hT : ∀ (h : Hp) (n : Nat) (L : List Ver) (t : Int) (x0 x2 x11 x13 x15 x16 x17 x19 x20 x21 x22 x43 x54 x80 : a9), RES = some (L, t) → (∀ j, K j → h j = h0 j) → Ixw K T h n y L → n0 ≤ n → bG h n →
      eR env 69 none Q ks (.exit 2) (x0 :: .ptr y 0 :: x2 :: .int .u64 t :: a9.aA :: a9.aA :: .ptr c 0 :: a9.aA :: .int .u64 0 :: .bool false :: a9.aA :: x11 :: a9.aA :: x13 :: a9.aA :: x15 :: x16 :: x17 :: a9.aA :: x19 :: x20 :: x21 :: x22 :: a9.aA :: a9.aA :: a9.aA :: a9.aA :: a9.aA :: a9.aA :: a9.aA :: a9.aA :: a9.aA :: a9.aA :: a9.aA :: a9.aA :: a9.aA :: a9.aA :: a9.aA :: a9.aA :: a9.aA :: a9.aA :: a9.aA :: a9.aA :: x43 :: a9.aA :: a9.aA :: a9.aA :: a9.aA :: a9.aA :: a9.aA :: a9.aA :: sv :: .int .i64 (A.cG.length : Nat) :: .int .i64 (A.cG.length : Nat) :: x54 :: a9.aA :: a9.aA :: a9.aA :: a9.aA :: a9.aA :: a9.aA :: a9.aA :: a9.aA :: a9.aA :: a9.aA :: a9.aA :: a9.aA :: a9.aA :: a9.aA :: a9.aA :: a9.aA :: a9.aA :: a9.aA :: a9.aA :: a9.aA :: a9.aA :: a9.aA :: a9.aA :: a9.aA :: a9.aA :: x80 :: a9.aA :: a9.aA :: a9.aA :: a9.aA :: a9.aA :: a9.aA :: a9.aA :: []) h n)
    (hR : ∀ (h : Hp) (n : Nat) (x0 x1 x2 x3 x6 x11 x13 x15 x16 x17 x19 x20 x21 x22 x43 x51 x52 x53 x54 x80 : a9), RES = none → (∀ j, K j → h j = h0 j) → eR env 69 none Q ks .ret (x0 :: x1 :: x2 :: x3 :: a9.aA :: a9.aA :: x6 :: a9.aA :: .int .u64 0 :: .bool false :: a9.aA :: x11 :: a9.aA :: x13 :: a9.aA :: x15 :: x16 :: x17 :: a9.aA :: x19 :: x20 :: x21 :: x22 :: a9.aA :: a9.aA :: a9.aA :: a9.aA :: a9.aA :: a9.aA :: a9.aA :: a9.aA :: a9.aA :: a9.aA :: a9.aA :: a9.aA :: a9.aA :: a9.aA :: a9.aA :: a9.aA :: a9.aA :: a9.aA :: a9.aA :: a9.aA :: x43 :: a9.aA :: a9.aA :: a9.aA :: a9.aA :: a9.aA :: a9.aA :: a9.aA :: x51 :: x52 :: x53 :: x54 :: a9.aA :: a9.aA :: a9.aA :: a9.aA :: a9.aA :: a9.aA :: a9.aA :: a9.aA :: a9.aA :: a9.aA :: a9.aA :: a9.aA :: a9.aA :: a9.aA :: a9.aA :: a9.aA :: a9.aA :: a9.aA :: a9.aA :: a9.aA :: a9.aA :: a9.aA :: a9.aA :: a9.aA :: a9.aA :: x80 :: a9.aA :: a9.aA :: a9.aA :: a9.aA :: a9.aA :: a9.aA :: a9.aA :: []) h n) :
    ∀ (m i : Nat) (h : Hp) (n : Nat) (L : List Ver) (t : Int) (x0 x2 x11 x13 x15 x16 x17 x19 x20 x21 x22 x43 x54 x80 : a9), i + m = A.cG.length → y0 A.bR (A.cG.drop i) L t = RES → (∀ j, K j → h j = h0 j) → Ixw K T h n y L → L.length ≤ 900000 → n0 ≤ n → bG h n →
      Run env 69 none Q (.loop EL) ks (x0 :: .ptr y 0 :: x2 :: .int .u64 t :: a9.aA :: a9.aA :: .ptr c 0 :: a9.aA :: .int .u64 0 :: .bool false :: a9.aA :: x11 :: a9.aA :: x13 :: a9.aA :: x15 :: x16 :: x17 :: a9.aA :: x19 :: x20 :: x21 :: x22 :: a9.aA :: a9.aA :: a9.aA :: a9.aA :: a9.aA :: a9.aA :: a9.aA :: a9.aA :: a9.aA :: a9.aA :: a9.aA :: a9.aA :: a9.aA :: a9.aA :: a9.aA :: a9.aA :: a9.aA :: a9.aA :: a9.aA :: a9.aA :: x43 :: a9.aA :: a9.aA :: a9.aA :: a9.aA :: a9.aA :: a9.aA :: a9.aA :: sv :: .int .i64 (A.cG.length : Nat) :: .int .i64 (i : Nat) :: x54 :: a9.aA :: a9.aA :: a9.aA :: a9.aA :: a9.aA :: a9.aA :: a9.aA :: a9.aA :: a9.aA :: a9.aA :: a9.aA :: a9.aA :: a9.aA :: a9.aA :: a9.aA :: a9.aA :: a9.aA :: a9.aA :: a9.aA :: a9.aA :: a9.aA :: a9.aA :: a9.aA :: a9.aA :: a9.aA :: x80 :: a9.aA :: a9.aA :: a9.aA :: a9.aA :: a9.aA :: a9.aA :: a9.aA :: []) h n := by
  intro m
  induction m with
  | zero =>
    intro i h n L t x0 x2 x11 x13 x15 x16 x17 x19 x20 x21 x22 x43 x54 x80 hm hres hk hy hl hn hf
    have : i = A.cG.length := by omega
    subst this
    rw [List.drop_length] at hres
    rw [cY]
    have hcc : ¬ (((A.cG.length : Nat) : Int) < ((A.cG.length : Nat) : Int)) := by omega
    simp only [EL, c8, Try.f69, Option.getD_some, fgr, bor, List.getD_cons_zero, List.getD_cons_succ, hcc, gE]
    exact hT h n L t _ _ _ _ _ _ _ _ _ _ _ _ _ _ hres.symm hk hy hn hf
  | succ m ih =>
    intro i h n L t x0 x2 x11 x13 x15 x16 x17 x19 x20 x21 x22 x43 x54 x80 hm hres hk hy hl hn hf
    have ha := hAp h hk
    have hil : i < A.cG.length := by omega
    have hcc : (((i : Nat) : Int) < ((A.cG.length : Nat) : Int)) := by omega
    have w1 : IntKind.i64.wrap (((i : Nat) : Int) + 1) = ((i + 1 : Nat) : Int) := by rw [w64 (by omega) (by have := ha.sl; omega)]; omega
    obtain ⟨ok, hld⟩ := ha.s.all (n := n) hil
    rw [← List.getElem_cons_drop hil] at hres
    generalize A.cG[i] = v at *
    rw [cY]
    simp only [EL, c8, Try.f69, Option.getD_some, fgr, bor, List.getD_cons_zero, List.getD_cons_succ, hcc, gE]
    rw [aI (ha.s.idx hil)]
    simp only [gE]
    rw [aI hld]
    simp only [gE]
    rw [cD vL rfl]
    simp only [cel, gE]
    refine dM (v := .agg (gD v)) vL rfl (iY ok) (wT v) hf fun H1 r1 p1 f1 => ?_
    replace r1 : Row H1 n (gD v) := r1
    have O1 : Old h H1 n := fun j hj => p1 j (by omega)
    have k1 : ∀ j, K j → H1 j = h0 j := fun j q => by rw [p1 j (by have := hKn j q; omega)]; exact hk j q
    have y1 := hy.tK (n' := n + 1) (by omega) O1
    have rc1 : Row H1 c (cX A mv sv) := hrc.aS (k1 c hcK)
    simp only [tyr, fgr, aQ, gE]
    rw [aI (wE r1 ok)]
    simp only [tyr, aQ, gE]
    rw [aI (uT rc1)]
    simp only [hkr, gE]
    refine aJ f1 (X2 v.aO v.pn A.bR ok.h y1.k hl f1) fun v3 h3 n3 hn3 f3 ⟨o3, sA, e3, okA, bA, iA⟩ => ?_
    subst e3
    simp only [gE]
    rw [cD eB rfl]
    simp only [cel, gE]
    refine dM (v := .agg (aK ((atV L v.aO v.pn A.bR).getD noV) sA)) eB rfl (bD okA.h okA.b) (cS bA.kind.2.1) f3 fun H4 r4 p4 f4 => ?_
    replace r4 : Row H4 n3 (aK ((atV L v.aO v.pn A.bR).getD noV) sA) := r4
    have O4 : Old H1 H4 (n + 1) := fun j hj => by rw [p4 j (by omega), o3 j hj]
    have k4 : ∀ j, K j → H4 j = h0 j := fun j q => by have := hKn j q; rw [O4 j (by omega)]; exact k1 j q
    have y4 := y1.old (n' := n3 + 1) (by omega) O4
    have s4 : Row H4 n (gD v) := r1.aS (O4 n (by omega))
    have rc4 : Row H4 c (cX A mv sv) := hrc.aS (k4 c hcK)
    cases hat : atV L v.aO v.pn A.bR with
    | none =>
      have hnone : RES = none := by rw [← hres, y0, hat]
      simp only [fgr, unOp, aT, Option.isSome_none, gE]
      exact hR _ _ _ _ _ _ _ _ _ _ _ _ _ _ _ _ _ _ _ _ _ _ hnone k4
    | some w =>
    rw [hat] at r4 okA
    simp only [Option.getD_some] at r4 okA
    obtain ⟨hwL, hwh, hwp, _⟩ := PC hat
    simp only [tyr, fgr, unOp, aQ, Option.isSome_some, gE]
    rw [aI (wE s4 ok)]
    simp only [tyr, aQ, gE]
    rw [aI (gV r4 okA)]
    simp only [tyr, aQ, gE]
    rw [aI (uT rc4)]
    simp only [tyr, aQ, gE]
    rw [aI (PW s4 ok)]
    simp only [hkr, gE]
    have y4' := y4.tK (h' := H4) (n' := n3 + 1) (Nat.le_refl _) (Old.refl _ _)
    have y4c : Ixw (fun j => (K j ∨ (n ≤ j ∧ j < n + 1)) ∨ j = n3) T H4 (n3 + 1) y L := by
      have := (y1.old (n' := n3) hn3 o3).tK (h' := H4) (n' := n3 + 1) (by omega) (fun j hj => p4 j (by omega))
      exact this.sub fun j q => by
        rcases q with q | q
        · exact .inl q
        · exact .inr (by omega)
    refine aJ f4 (aC2 v.aO v.pn w.made A.bR v.by_ ok.h ok.b y4c hl f4) fun v6 h6 n6 hn6 f6 ⟨k6, hh⟩ => ?_
    have k6' : ∀ j, K j → h6 j = h0 j := fun j q => by rw [k6 j (.inl (.inl q))]; exact k4 j q
    rcases hh with ⟨he, e6, y6⟩ | ⟨w2, hw2, hk2, h1, h2, h3', e6, y6⟩
    · subst e6
      have hw := he w hwL (by rw [← hwh, ← hwp]; exact BF w)
      have hnone : RES = none := by
        rw [← hres, y0, hat]
        simp only
        rw [if_neg]
        simp only [Bool.and_eq_true, decide_eq_true_eq]
        omega
      simp only [fgr, bor, aT, Int.reduceEq, gE]
      exact hR _ _ _ _ _ _ _ _ _ _ _ _ _ _ _ _ _ _ _ _ _ _ hnone k6'
    · subst e6
      have hww : w2 = w := by
        refine mB hy.rL hw2 hwL ?_
        have e := AI hk2
        have : gM w2 (key w.aO w.pn w.made) = 0 := by rw [hwh, hwp]; exact hk2
        exact this
      subst hww
      rw [y0, hat] at hres
      simp only at hres
      rw [if_pos (by simp only [Bool.and_eq_true, decide_eq_true_eq]; omega)] at hres
      have r6 : Row h6 n3 (aK w2 sA) := r4.aS (k6 n3 (.inr rfl))
      simp only [tyr, fgr, bor, aT, aQ, gE]
      rw [aI (nI r6 okA)]
      simp only [tyr, fgr, lenOf, bor, bS, convert, gP, oG, w1, gE]
      exact ih (i + 1) h6 n6 (zA L w2 (iU w2 A.bR v.by_)) (z6 (t - z6 w2.value)) _ _ _ _ _ _ _ _ _ _ _ _ _ _ (by omega) hres k6' (y6.sub fun j q => .inl (.inl q)) (by rw [CG]; exact hl) (by omega) f6
def AH (L0 : List Ver) (tip : Int) (A : App) (L : List Ver) (t : Int) : Option (List Ver × Int) := match wX L0 tip A.made L t with
  | some r => y0 A.bR A.cG r.1 r.2
  | none => none
theorem f69 (W K T : Nat → Prop) (s y a b : Nat) (A : App) (mv sv : a9) (L0 L : List Ver) (I : List Inf) (t : Int) (h : Hp) (n : Nat) (hy : Ixw K T h n y L) (hK : ∀ j, K j → j < n)
    (hSt : ∀ h' n', n ≤ n' → (∀ j, K j → h' j = h j) → St W h' n' s L0 I) (hAp : ∀ h', (∀ j, K j → h' j = h j) → j6 h' a b A mv sv) (hb : b ≤ n)
    (hpn : ∀ v ∈ A.made, 0 ≤ v.pn) (hsl : ∀ v ∈ A.made, v.aL.length ≤ 1000000) (hI : I.length ≤ 1000000) (hL0 : L0.length ≤ 900000) (hL : L.length + A.made.length ≤ 900000) (hf : bG h n) :
    Wp (bM env (aY env) 69 [.ptr s 0, .ptr y 0, .agg (cX A mv sv), .int .u64 t]) h n fun v' h' n' => (∀ j, K j → h' j = h j) ∧
      ((∃ L' t', AH L0 (((I.length : Nat) : Int) - 1) A L t = some (L', t') ∧ v' = .tup [.int .u64 t', .bool true] ∧ Ixw K T h' n' y L') ∨ (AH L0 (((I.length : Nat) : Int) - 1) A L t = none ∧ v' = .tup [.int .u64 0, .bool false])) := by
  have ha := hAp h fun j q => rfl
  refine aZ ay9 ao3 ?_
  simp only [W1, Try.f69, Option.getD_some, List.replicate, Nat.reduceAdd, Nat.reduceSub, gE]
  refine dU (v := .agg (cX A mv sv)) AT rfl hf fun H1 r1 o1 f1 => ?_
  replace r1 : Row H1 n (cX A mv sv) := r1
  have y1 := hy.tK (n' := n + 1) (by omega) (fun j hj => o1 j (by omega))
  have y1' : Ixw (fun j => K j ∨ j = n) T H1 (n + 1) y L := y1.sub fun j q => q.elim .inl fun q => .inr (by omega)
  have kk : ∀ h' : Hp, (∀ j, (K j ∨ j = n) → h' j = H1 j) → ∀ j, K j → h' j = h j := fun h' q j w => by rw [q j (.inl w), o1 j (by have := hK j w; omega)]
  have a1 := hAp H1 (kk H1 fun j _ => rfl)
  simp only [tyr, fgr, aQ, gE]
  rw [aI (BX r1 ha.b)]
  simp only [fgr, builtin, a1.m.len, gE]
  refine ML _ _ W (fun j => K j ∨ j = n) T s y n a b A mv sv L0 I (wX L0 (((I.length : Nat) : Int) - 1) A.made L t) H1 (n + 1) (fun j q => by rcases q with q | q; have := hK j q; omega; omega) (.inr rfl) (fun h' n' q w => hSt h' n' (by omega) (kk h' w)) (fun h' w => hAp h' (kk h' w)) (by omega) r1 hpn hsl hI hL0 ?_ ?_ A.made.length 0 H1 (n + 1) L t _ _ _ _ _ _ _ _ _ _ _ _ _ (by omega) rfl (fun j _ => rfl) y1' (by omega) (Nat.le_refl _) f1
  · intro h2 n2 L2 t2 x2 x11 x13 x15 x16 x17 x22 x43 x51 x52 x53 x54 x80 hres k2 y2 hl2 hn2 f2
    have rc2 : Row h2 n (cX A mv sv) := r1.aS (k2 n (.inr rfl))
    have a2 := hAp h2 (kk h2 k2)
    simp only [tyr, aQ, gE]
    rw [aI (BW rc2 ha.b)]
    simp only [fgr, builtin, a2.s.len, gE]
    refine MK _ _ (fun j => K j ∨ j = n) T y n a b A mv sv (y0 A.bR A.cG L2 t2) h2 n2 (fun j q => by rcases q with q | q; have := hK j q; omega; omega) (.inr rfl) (fun h' w => hAp h' (kk h' fun j q => (w j q).trans (k2 j q))) rc2 ?_ ?_ A.cG.length 0 h2 n2 L2 t2 _ _ _ _ _ _ _ _ _ _ _ _ _ _ (by omega) rfl (fun j _ => rfl) y2 hl2 (Nat.le_refl _) f2
    · intro h3 n3 L3 t3 x0 x2 x11 x13 x15 x16 x17 x19 x20 x21 x22 x43 x54 x80 hres3 k3 y3 hn3 f3
      simp only [fgr, gE]
      exact ⟨kk h3 fun j q => (k3 j q).trans (k2 j q), .inl ⟨L3, t3, by unfold AH; rw [hres]; exact hres3, rfl, y3.sub fun j q => .inl q⟩⟩
    · intro h3 n3 x0 x1 x2 x3 x6 x11 x13 x15 x16 x17 x19 x20 x21 x22 x43 x51 x52 x53 x54 x80 hres3 k3
      simp only [bP, nth, and_true, true_and]
      exact ⟨kk h3 fun j q => (k3 j q).trans (k2 j q), .inr (by unfold AH; rw [hres]; exact hres3)⟩
  · intro h3 n3 x0 x1 x2 x3 x6 x11 x13 x15 x16 x17 x19 x20 x21 x22 x43 x51 x52 x53 x54 x80 hres3 k3
    simp only [bP, nth, and_true, true_and]
    exact ⟨kk h3 k3, .inr (by unfold AH; rw [hres3])⟩
def jT (I : List Inf) : Inf := (I.getLast?).getD eN
theorem b61 : build env 61 [] = M.pure (.agg (bQ eN)) := rfl
theorem f68 (s x : Nat) (lv : a9) (I : List Inf) (h : Hp) (n : Nat) (hr : Row h s [.ptr x 0, lv]) (hi : IL h lv I) (hs : s < n) (hlv : ∀ j, bB lv = some j → j < n) (hc : I.length ≤ 1000000) (hf : bG h n) :
    Wp (bM env (aY env) 68 [.ptr s 0]) h n fun v' h' n' => v' = .agg (bQ (jT I)) ∧ (jT I).block.length = 32 ∧ Old h h' n := by
  refine aZ az0 ao4 ?_
  simp only [W2, Try.f68, Option.getD_some, List.replicate, Nat.reduceSub, gE]
  rw [cD gJ rfl]
  obtain ⟨H1, hH1⟩ : ∃ H1, H1 = upd h n (some (.row (.l (bQ eN)) 61)) := ⟨_, rfl⟩
  have g1 : H1 n = some (.row (.l (bQ eN)) 61) := by rw [hH1, aP]
  have o1 : ∀ j, j ≠ n → H1 j = h j := fun j hj => by rw [hH1, aG _ _ hj]
  have f1 : bG H1 (n + 1) := by rw [hH1]; exact hf.new
  show Ops _ _ _ _ _ _ _ _ (upd h n (some (.row (.l (bQ eN)) 61))) _
  rw [← hH1]
  clear hH1
  have r1 : Row H1 s [.ptr x 0, lv] := hr.aS (o1 s (by omega))
  have i1 : IL H1 lv I := hi.aS fun j q => o1 j (by have := hlv j q; omega)
  simp only [tyr, fgr, aQ, gE]
  rw [aI (r1.one (off := 1) rfl sP rfl)]
  simp only [fgr, builtin, bor, i1.len, gE]
  by_cases h0 : I.length = 0
  · have hI : I = [] := List.eq_nil_of_length_eq_zero h0
    subst hI
    simp only [Int.cast_ofNat_Int, b61, gE]
    rw [eS (Row.eZ (v := .agg (bQ eN)) g1 gJ (bV fA) (by rw [bV fA]; show 0 + 37 ≤ 37; omega) (eM _))]
    rw [eL (by rfl)]
    simp only [bP, fgr, bX, nth, aE, cel, true_and]
    refine fL (Row.gT (cs := bQ eN) ⟨61, aP _ _ _⟩ gJ rfl (bV fA)) (aM.2 ?_)
    exact ⟨rfl, fA, fun j hj => by rw [aG _ _ (by omega), o1 j (by omega)]⟩
  · have hb : (((I.length : Nat) : Int) == 0) = false := by rw [beq_eq_false_iff_ne]; omega
    have h0' : ¬ ((I.length : Nat) : Int) = 0 := by omega
    simp only [bP, decide_false, h0']
    have hil : I.length - 1 < I.length := by omega
    have w1 : IntKind.i64.wrap (((I.length : Nat) : Int) - 1) = ((I.length - 1 : Nat) : Int) := by rw [w64 (by omega) (by omega)]; omega
    have hlast : jT I = I[I.length - 1] := by
      unfold jT
      rw [List.getLast?_eq_getElem?, List.getElem?_eq_getElem hil]; rfl
    obtain ⟨bok, hld⟩ := i1.all (n := n + 1) hil
    rw [hlast]
    refine cP ⟨rfl, ?_⟩
    simp only [tyr, aQ, Nat.reduceAdd, gE]
    rw [bJ (r1.one (off := 1) rfl sP rfl)]
    simp only [tyr, aQ, Nat.reduceAdd, gE]
    rw [bJ (r1.one (off := 1) rfl sP rfl)]
    simp only [builtin, bor, bS, Nat.reduceAdd, i1.len, w1, gE]
    rw [bJ (i1.idx hil)]
    simp only [Nat.reduceAdd, gE]
    rw [bJ hld]
    simp only [Nat.reduceAdd, gE]
    refine jZ (Row.eZ (v := .agg (bQ I[I.length - 1])) g1 gJ (bV bok) (by rw [bV fA]; show 0 + 37 ≤ 37; omega) (eM _)) ?_
    rw [eL (by show (bQ _).length = _; rw [bV bok, bV fA])]
    simp only [jG, bP, fgr, bX, nth, aE, cel, Nat.reduceAdd, true_and]
    refine ⟨(by (try simp (disch := first | assumption | omega) only [dW, gF]); repeat' (first | rfl | exact (Bool.or_eq_true _ _).mpr (.inr rfl) | refine (Bool.and_eq_true _ _).mpr ⟨?_, ?_⟩)), ?_⟩
    refine fL (Row.gT (cs := bQ I[I.length - 1]) ⟨61, aP _ _ _⟩ gJ rfl (bV bok)) (aM.2 ?_)
    exact ⟨rfl, bok, fun j hj => by rw [aG _ _ (by omega), o1 j (by omega)]⟩
def uN (z : Int) : Int := IntKind.i64.wrap z
def xB (t : Int) : Bool := decide (2100000000000000 < t)
def oY (I : List Inf) (A : App) (t : Int) : Inf := ⟨A.bR, A.block, uN (uN ((jT I).jV + (A.made.length : Nat)) - (A.cG.length : Nat)), uN t, uN ((jT I).fU + A.fU), uN ((jT I).left + A.left)⟩
def fJ (L : List Ver) (I : List Inf) (A : App) : Option (List Ver × List Inf) := match mO A && decide (A.bR = ((I.length : Nat) : Int)) with
  | false => none
  | true => match AH L (((I.length : Nat) : Int) - 1) A L (z6 (jT I).jI) with
    | none => none
    | some r => match xB r.2 || xB (uN ((jT I).fU + A.fU)) || xB (uN ((jT I).left + A.left)) with
      | true => none
      | false => some (r.1, I ++ [oY I A r.2])
def mR (o : Option (List Ver × List Inf)) : Int := match o with
  | some _ => 0
  | none => 220
theorem JE {A : App} (h : mO A = true) : ∀ v ∈ A.made, v.aL.length ≤ 2000 ∧ rG A.bR v = true := fun v hv => by
  obtain ⟨k, hk, rfl⟩ := List.mem_iff_getElem.1 hv
  unfold mO jC at h
  rw [Bool.and_eq_true, List.all_eq_true] at h
  have := h.2 k (List.mem_range.2 (by omega))
  unfold xI at this
  rw [if_pos hk] at this
  unfold IH at this
  rw [List.getElem?_eq_getElem hk] at this
  simp only [Bool.and_eq_true] at this
  refine ⟨?_, this.1⟩
  have := this.1
  unfold rG at this
  simp only [Bool.and_eq_true, decide_eq_true_eq] at this
  exact this.2
def i0 : a9 := .int .i64 0
theorem RS {i : Inf} (hb : i.block.length = 32) : build env 61 [(0, .int .i64 i.bR), (1, .agg (i.block.map u8)), (2, .int .i64 i.jV), (3, .int .i64 i.jI), (4, .int .i64 i.fU), (5, .int .i64 i.left)] = M.pure (.agg (bQ i)) := by
  have hB : (a9.agg (i.block.map u8)).cells.length = 32 := by show (i.block.map u8).length = 32; rw [List.length_map, hb]
  have hB' : (i.block.map u8).length = 32 := by rw [List.length_map, hb]
  have e1 : ∀ pl : Nat → Option (Nat × Nat), pl 0 = some (0, 1) → pl 1 = some (1, 32) → pl 2 = some (33, 1) → pl 3 = some (34, 1) → pl 4 = some (35, 1) → pl 5 = some (36, 1) →
      fill pl uD.i.zero.cells [(0, .int .i64 i.bR), (1, .agg (i.block.map u8)), (2, .int .i64 i.jV), (3, .int .i64 i.jI), (4, .int .i64 i.fU), (5, .int .i64 i.left)] = some (bQ i) := fun pl p0 p1 p2 p3 p4 p5 => by
    rw [show uD.i.zero.cells = [] ++ [i0] ++ (z32.map u8 ++ [i0, i0, i0, i0]) from rfl, iK p0 rfl rfl rfl rfl]
    rw [show [] ++ (a9.int .i64 i.bR).cells ++ (z32.map u8 ++ [i0, i0, i0, i0]) = [.int .i64 i.bR] ++ z32.map u8 ++ [i0, i0, i0, i0] from rfl, iK p1 rfl rfl hB rfl]
    rw [show [a9.int .i64 i.bR] ++ (a9.agg (i.block.map u8)).cells ++ [i0, i0, i0, i0] = (.int .i64 i.bR :: i.block.map u8) ++ [i0] ++ [i0, i0, i0] by simp [a9.cells], iK p2 (by simp [hb]) rfl rfl rfl]
    rw [show (a9.int .i64 i.bR :: i.block.map u8) ++ (a9.int .i64 i.jV).cells ++ [i0, i0, i0] = (.int .i64 i.bR :: i.block.map u8 ++ [.int .i64 i.jV]) ++ [i0] ++ [i0, i0] by simp [a9.cells], iK p3 (by simp [hb]) rfl rfl rfl]
    rw [show (a9.int .i64 i.bR :: i.block.map u8 ++ [.int .i64 i.jV]) ++ (a9.int .i64 i.jI).cells ++ [i0, i0] = (.int .i64 i.bR :: i.block.map u8 ++ [.int .i64 i.jV, .int .i64 i.jI]) ++ [i0] ++ [i0] by simp [a9.cells], iK p4 (by simp [hb]) rfl rfl rfl]
    rw [show (a9.int .i64 i.bR :: i.block.map u8 ++ [.int .i64 i.jV, .int .i64 i.jI]) ++ (a9.int .i64 i.fU).cells ++ [i0] = (.int .i64 i.bR :: i.block.map u8 ++ [.int .i64 i.jV, .int .i64 i.jI, .int .i64 i.fU]) ++ [i0] ++ [] by simp [a9.cells], iK p5 (by simp [hb]) rfl rfl rfl]
    simp only [fill, bQ, a9.cells]
    simp
  have e2 : build env 61 [(0, .int .i64 i.bR), (1, .agg (i.block.map u8)), (2, .int .i64 i.jV), (3, .int .i64 i.jI), (4, .int .i64 i.fU), (5, .int .i64 i.left)] = (dG "build" (fill ([(0, 1), (1, 32), (33, 1), (34, 1), (35, 1), (36, 1)][·]?) uD.i.zero.cells [(0, .int .i64 i.bR), (1, .agg (i.block.map u8)), (2, .int .i64 i.jV), (3, .int .i64 i.jI), (4, .int .i64 i.fU), (5, .int .i64 i.left)])).bind fun cs => M.pure (.agg cs) := rfl
  rw [e2, e1 _ rfl rfl rfl rfl rfl rfl]
  rfl
theorem aD5 {X : List a9} (hX : X.length = 37) : buildSlice env 57 1 [(0, .agg X)] = (newRow env 61 X).bind fun id => M.pure (.sl id 0 1 (some 1) 37) := by
  have e1 : fill (fun k => some (k * 37, 37)) (fS uD.i.zero.cells 1) [(0, .agg X)] = some X := by
    have : fS uD.i.zero.cells 1 = [] ++ uD.i.zero.cells ++ [] := rfl
    rw [this, iK (off := 0) (sz := 37) (pre := []) (mid := uD.i.zero.cells) (post := []) (v := .agg X) (bH := []) rfl rfl rfl hX rfl]
    simp [fill, a9.cells]
  have e2 : buildSlice env 57 1 [(0, .agg X)] = (dG "buildSlice" (fill (fun k => some (k * 37, 37)) (fS uD.i.zero.cells 1) [(0, .agg X)])).bind fun cs => (newRow env 61 cs).bind fun id => M.pure (.sl id 0 1 (some 1) 37) := rfl
  rw [e2, e1]
  rfl
end Go.Am.Ytlgebaofkolkoaa
