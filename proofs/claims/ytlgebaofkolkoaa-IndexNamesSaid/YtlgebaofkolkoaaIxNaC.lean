/- The functions that the statement reaches, gone through. -/
import Derived.Test.YtlgebaofkolkoaaIxNaB
set_option linter.unusedSimpArgs false
set_option linter.unusedVariables false
set_option linter.defProp false
set_option maxRecDepth 10000
namespace Go.Am.Ytlgebaofkolkoaa
open Go Go.Am Go.Proofs
set_option maxHeartbeats 4000000 in
theorem f37 (x : Nat) (hash : List UInt8) (pn z : Int) (hl : hash.length = 32) (L : List Ver) (D M : Nat → Prop) (h : Hp) (n : Nat) (hs : Ix h n D M x L) (hc : L.length ≤ 1000000) (hf : Free h n) :
    Wp (callI env (evalW env) 37 [.ptr x 0, .agg (pcells hash pn), .int .i64 z]) h n fun v' h' n' => Old h h' n ∧ ∃ k, pos false L (key hash pn 0) ≤ k ∧ (∀ i (hi : i < L.length), pos false L (key hash pn 0) ≤ i → i < k → same hash pn L[i] = true) ∧ (∀ hk : k < L.length, same hash pn L[k] = false) ∧
      ((fnd L (pos false L (key hash pn 0)) k z = none ∧ v' = .tup [.agg ty31.i.zero.cells, .bool false]) ∨ ∃ w s', fnd L (pos false L (key hash pn 0)) k z = some w ∧ v' = .tup [.agg (vcells w s'), .bool true] ∧ w ∈ L ∧ Bytes h' s' w.script ∧ ∀ j, ownId s' = some j → n ≤ j ∧ j < n') := by
  obtain ⟨⟨S, s0, rS, perm⟩, rL, ok⟩ := hs
  obtain ⟨vl, vs, xl, xs, iv, mx, ml, ms, mn⟩ := s0
  refine wp_callI ff37 fi37 ?_
  simp only [fu37, Try.f37, Option.getD_some, List.replicate, core1, execOp, opd, nth, ended, resultOf, oneOrTup, List.cons_append, List.nil_append, List.length_cons, List.length_nil, Nat.reduceAdd, Nat.reduceSub, Nat.zero_add]
  refine opv_box (v := .agg (pcells hash pn)) ti28 rfl hf fun H1 r1 o1 f1 => ?_
  simp only [core1, execOp, opd, putT, put, nth]
  refine opv_box (v := .int .i64 z) ti3 rfl f1 fun H2 r2 o2 f2 => ?_
  simp only [core1, execOp, putT, put]
  rw [opv_alloc ti31 rfl]
  obtain ⟨H3, hH3⟩ : ∃ H3, H3 = upd H2 (n + 1 + 1) (some (Blk.row (Cont.l ty31.i.zero.cells) 31)) := ⟨_, rfl⟩
  show Ops env 37 none _ _ _ _ _ (upd H2 (n + 1 + 1) (some (Blk.row (Cont.l ty31.i.zero.cells) 31))) _
  rw [← hH3]
  have f3 : Free H3 (n + 1 + 1 + 1) := by rw [hH3]; exact f2.new
  have o3 : ∀ j, j ≠ n + 1 + 1 → H3 j = H2 j := fun j hj => by rw [hH3, upd_ne _ _ hj]
  have r3 : H3 (n + 1 + 1) = some (Blk.row (Cont.l ty31.i.zero.cells) 31) := by rw [hH3, upd_same]
  clear hH3
  simp only [core1, tyr, fgr, execOp, opd, ofValue, putT, put, nth, forgetL, zeroOf, cel, alloc, doAlloc, newRow]
  have r1' : Row (upd H3 (n + 1 + 1 + 1) (some (Blk.row (Cont.l [AVal.nilp]) 128))) n (pcells hash pn) := ((r1.keep (o2 n (by omega))).keep (o3 n (by omega))).upd (by omega)
  rw [opv_rd (show Rd (load env 28 (.ptr n 0)) _ _ [n] (.agg (pcells hash pn)) from Row.whole r1' ti28 rfl (pcells_len hl))]
  simp only [core1, hkr, execOp, opd, opds, putT, put, nth, doCall, callV_func, List.nil_append, List.append_nil]
  refine opv_same (f81 x hash pn _ _) ?_
  simp only [core1, fgr, putT, put, forgetL]
  refine run_range (g := 106) (first := []) (cap := [.ptr (n + 1 + 1 + 1 + 1) 0, .ptr (n + 1 + 1 + 1 + 1 + 1) 0]) rfl rfl ?_
  let TM : List AVal := (.ptr x 0 :: .agg (pcells hash pn) :: .int .i64 z :: AVal.junk :: .ptr n 0 :: .ptr (n + 1) 0 :: .ptr (n + 1 + 1) 0 :: .bool false :: .ptr (n + 1 + 1 + 1) 0 :: undef :: AVal.junk :: AVal.junk :: .fn (.func 106) [] [.ptr (n + 1 + 1 + 1 + 1) 0, .ptr (n + 1 + 1 + 1 + 1 + 1) 0] :: undef :: AVal.junk :: AVal.junk :: AVal.junk :: AVal.junk :: AVal.junk :: undef :: AVal.junk :: AVal.junk :: undef :: AVal.junk :: AVal.junk :: AVal.junk :: AVal.junk :: AVal.junk :: [])
  obtain ⟨H6, hH6⟩ : ∃ H6, H6 = upd (upd (upd (upd H3 (n + 1 + 1 + 1) (some (Blk.row (Cont.l [AVal.nilp]) 128))) (n + 1 + 1 + 1 + 1) (some (Blk.row (Cont.l [AVal.ptr x 0]) 56))) (n + 1 + 1 + 1 + 1 + 1) (some (Blk.row (Cont.l (pcells hash pn)) 28))) (n + 1 + 1 + 1 + 1 + 1 + 1) (some (Blk.loop (L37 TM))) := ⟨_, rfl⟩
  show Wp (callF env (evalW env) 106 [AVal.fn (Fn.yield (n + 1 + 1 + 1 + 1 + 1 + 1)) [] [], AVal.ptr (n + 1 + 1 + 1 + 1) 0, AVal.ptr (n + 1 + 1 + 1 + 1 + 1) 0]) (upd (upd (upd (upd H3 (n + 1 + 1 + 1) (some (Blk.row (Cont.l [AVal.nilp]) 128))) (n + 1 + 1 + 1 + 1) (some (Blk.row (Cont.l [AVal.ptr x 0]) 56))) (n + 1 + 1 + 1 + 1 + 1) (some (Blk.row (Cont.l (pcells hash pn)) 28))) (n + 1 + 1 + 1 + 1 + 1 + 1) (some (Blk.loop (L37 TM)))) _ _
  rw [hk106, ← hH6]
  have f6 : Free H6 (n + 1 + 1 + 1 + 1 + 1 + 1 + 1) := by rw [hH6]; exact f3.new.new.new.new
  have old6 : Old h H6 n := fun j hj => by rw [hH6, upd_ne _ _ (by omega), upd_ne _ _ (by omega), upd_ne _ _ (by omega), upd_ne _ _ (by omega), o3 j (by omega), o2 j (by omega), o1 j (by omega)]
  have g1 : Row H6 (n + 1) [.int .i64 z] := by rw [hH6]; exact ((((r2.keep (o3 (n + 1) (by omega))).upd (by omega)).upd (by omega)).upd (by omega)).upd (by omega)
  have g2 : H6 (n + 1 + 1) = some (Blk.row (Cont.l ty31.i.zero.cells) 31) := by rw [hH6, upd_ne _ _ (by omega), upd_ne _ _ (by omega), upd_ne _ _ (by omega), upd_ne _ _ (by omega)]; exact r3
  have g3 : H6 (n + 1 + 1 + 1) = some (Blk.row (Cont.l [AVal.nilp]) 128) := by rw [hH6, upd_ne _ _ (by omega), upd_ne _ _ (by omega), upd_ne _ _ (by omega), upd_same]
  have g4 : Row H6 (n + 1 + 1 + 1 + 1) [.ptr x 0] := by rw [hH6]; exact ((Row.new _ _ _ _).upd (by omega)).upd (by omega)
  have g5 : Row H6 (n + 1 + 1 + 1 + 1 + 1) (pcells hash pn) := by rw [hH6]; exact (Row.new _ _ _ _).upd (by omega)
  have g6 : H6 (n + 1 + 1 + 1 + 1 + 1 + 1) = some (.loop (L37 TM)) := by rw [hH6, upd_same]
  clear hH6
  have iv6 : IxV H6 (n + 1 + 1 + 1 + 1 + 1 + 1 + 1) D x vl vs xl xs L S := by
    exact ⟨iv.row.keep (old6 x iv.xn), iv.l.keep (fun j q => old6 j (mn j (ml j q)).1), iv.lp.mono (fun j q => q) (fun j q => old6 j (iv.dn j q)), iv.s.keep (fun j q => old6 j (mn j (ms j q)).1), iv.sp.mono (fun j q => q) (fun j q => old6 j (iv.dn j q)), by have := iv.xn; omega, fun j q => by have := iv.dn j q; omega, iv.xd, iv.vlx, iv.vsx⟩
  have lt : ∀ (j : Nat), j < n → ∀ (h1 : Hp), (∀ j, j < n + 1 + 1 + 1 + 1 + 1 + 1 + 1 → j ≠ n + 1 + 1 + 1 → j ≠ n + 1 + 1 + 1 + 1 + 1 + 1 → h1 j = H6 j) → h1 j = H6 j := fun j hj h1 hk => hk j (by omega) (by omega) (by omega)
  refine wp_mono ((f106 (.fn (.yield (n + 1 + 1 + 1 + 1 + 1 + 1)) [] []) (n + 1 + 1 + 1 + 1) (n + 1 + 1 + 1 + 1 + 1) x hash pn hl L S D (P37 H6 n D L hash pn z (L37 TM)) (fun _ _ _ => False) vl vs xl xs H6 (n + 1 + 1 + 1 + 1 + 1 + 1 + 1) iv6 (fun j q => by have := (mn j (ml j q)).1; omega) rL hc ⟨rfl, rfl, rfl⟩ g4 g5 (by omega) (by omega) f6 ?_ ?_ ?_ (fun _ _ _ _ _ _ _ q => q) ?_).free f6) ?_
  · intro nS k h1 n1 p
    exact ⟨iv6.l.rds.keep (fun j q => lt j (mn j (ml j q)).1 h1 p.kp), iv6.lp.mono (fun j q => q) (fun j q => lt j (iv.dn j q) h1 p.kp), p.fr⟩
  · intro h' nS hn' hf' ho'
    exact ⟨hf', Nat.le_refl _, fun j hj _ _ => ho' j hj, (ho' _ (by omega)).trans g6, ⟨.nilp, (ho' _ (by omega)).trans g3, .inl ⟨rfl, fnd_0 _ _ _⟩⟩, fun i hi h1 h2 => by omega⟩
  · intro nS k h1 n1 i b hi hns p
    obtain ⟨c, hc1, hc2⟩ := p.cl
    exact ⟨p.fr.upd (by have := p.ns; omega), p.ns, fun j hj h1' h2' => by rw [upd_ne _ _ (by omega)]; exact p.kp j hj h1' h2', by rw [upd_ne _ _ (by omega)]; exact p.lp, ⟨c, by rw [upd_ne _ _ (by omega)]; exact hc1, hc2⟩, p.sm⟩
  · intro nS k hk id sv h1 n1 hnS hpk p a d1 d2 hsm
    have hidn := iv.dn id d1
    refine wp_yield p.lp rfl rfl ?_
    simp only [ra37_0, List.getD_cons_zero, putAll, List.zip_cons_cons, List.zip_nil_left, L37, TM, rangesOf, Try.f37, Option.getD_some, core1, fgr, execOp, opd, putT, put, nth, forgetL, List.nil_append, List.append_nil, true_and]
    refine ⟨_, p.lp, rfl, ?_⟩
    obtain ⟨h2, hh2⟩ : ∃ h2, h2 = upd h1 (n + 1 + 1 + 1 + 1 + 1 + 1) (some (Blk.loop { L37 TM with state := .busy })) := ⟨_, rfl⟩
    have ho2 : ∀ j, j ≠ n + 1 + 1 + 1 + 1 + 1 + 1 → h2 j = h1 j := fun j hj => by rw [hh2, upd_ne _ _ hj]
    have hlo2 : h2 (n + 1 + 1 + 1 + 1 + 1 + 1) = some (.loop { L37 TM with state := .busy }) := by rw [hh2, upd_same]
    have hns := p.ns
    have hf2 : Free h2 n1 := by rw [hh2]; exact p.fr.upd (by omega)
    show Run env 37 _ _ _ _ _ (upd h1 (n + 1 + 1 + 1 + 1 + 1 + 1) (some (Blk.loop { L37 TM with state := .busy }))) n1
    rw [← hh2]
    clear hh2
    have a2 : At h2 id sv L[k] := a.keep (ho2 id (by omega)) (fun j q => ho2 j (by have := iv.dn j (d2 j q); omega))
    have a6 : At H6 id sv L[k] := a.keep (lt id hidn h1 p.kp).symm (fun j q => (lt j (iv.dn j (d2 j q)) h1 p.kp).symm)
    have rz : Row h2 (n + 1) [.int .i64 z] := g1.keep ((ho2 (n + 1) (by omega)).trans (p.kp (n + 1) (by omega) (by omega) (by omega)))
    obtain ⟨c, hc1, hc2⟩ := p.cl
    simp only [rb37_0, List.getD_cons_zero, rangesOf, Try.f37, Option.getD_some, core1, List.nil_append, List.append_nil]
    refine run_draw.2 ⟨rfl, ?_⟩
    simp only [fe_cons, fev_pure, execOp, opd, putT, put, nth, nilCheck, Nat.reduceAdd, Nat.zero_add]
    rw [fev_rd (row_all a2.row a2.ok)]
    simp only [fe_cons, execOp, opd, putT, put, nth, Nat.reduceAdd]
    rw [fev_rd (rz.one (off := 0) rfl ti3 rfl)]
    simp only [fe_cons, hkr, execOp, opd, opds, putT, put, nth, doCall, callV_func, List.nil_append, List.append_nil, Nat.reduceAdd]
    refine fev_any hf2 (f82 L[k] sv a2.ok z h2 n1 hf2) fun v6 h6 n6 r6 w6 hn6 f6' ⟨e6, o6⟩ => ?_
    subst e6
    have hlo6 : h6 (n + 1 + 1 + 1 + 1 + 1 + 1) = some (.loop { L37 TM with state := .busy }) := (o6 _ (by omega)).trans hlo2
    have hc6 : h6 (n + 1 + 1 + 1) = some (.row (.l [c]) 128) := ((o6 _ (by omega)).trans (ho2 _ (by omega))).trans hc1
    have sm' : ∀ i (hi : i < L.length), pos false L (key hash pn 0) ≤ i → i < k + 1 → same hash pn L[i] = true := fun i hi h1' h2' => by
      by_cases q : i = k
      · subst q; exact hsm
      · exact p.sm i hi h1' (by omega)
    have keep6 : ∀ j, j < n1 → j ≠ n + 1 + 1 + 1 + 1 + 1 + 1 → h6 j = h1 j := fun j hj hne => (o6 j hj).trans (ho2 j hne)
    cases hth : there L[k] z with
    | false =>
      simp only [fe_nil, fe_cons, fev_pure, core1, fgr, execOp, opd, putT, put, nth, forgetL, unOp, Nat.reduceAdd, Bool.not_false]
      refine ⟨(by (try simp (disch := first | assumption | omega) only [fine, List.all_cons, List.all_nil, clash_pl, clash_pr, clash_rr, Bool.not_false, Bool.true_or, Bool.and_true, Bool.true_and]); repeat' (first | rfl | exact (Bool.or_eq_true _ _).mpr (.inr rfl) | refine (Bool.and_eq_true _ _).mpr ⟨?_, ?_⟩)), _, hlo6, .inl ⟨.inl rfl, ⟨f6'.upd (by omega), by omega, fun j hj h1' h2' => ?_, upd_same _ _ _, ⟨c, by rw [upd_ne _ _ (by omega)]; exact hc6, by rw [fnd_s hpk hk, hth]; exact hc2⟩, sm'⟩⟩, fun j hj hjn => ?_, ?_⟩
      · rw [upd_ne _ _ h2', keep6 j (by omega) h2']; exact p.kp j hj h1' h2'
      · rw [upd_ne _ _ (by omega), keep6 j (by omega) (by omega)]
      · rw [upd_ne _ _ (by omega), keep6 _ (by omega) (by omega)]
    | true =>
      simp only [fe_nil, fe_cons, fev_pure, core1, fgr, execOp, opd, putT, put, nth, forgetL, unOp, Nat.reduceAdd, Bool.not_true]
      refine ⟨(by (try simp (disch := first | assumption | omega) only [fine, List.all_cons, List.all_nil, clash_pl, clash_pr, clash_rr, Bool.not_false, Bool.true_or, Bool.and_true, Bool.true_and]); repeat' (first | rfl | exact (Bool.or_eq_true _ _).mpr (.inr rfl) | refine (Bool.and_eq_true _ _).mpr ⟨?_, ?_⟩)), ?_⟩
      rw [opv_wr (Row.write (v := .ptr id 0) hc6 ti128 rfl (by show 0 + 1 ≤ 1; omega) rfl)]
      simp only [core1, fgr, putT, forgetL, cel]
      have spl : splice [c] 0 [AVal.ptr id 0] = [AVal.ptr id 0] := rfl
      refine ⟨_, (upd_ne _ _ (by omega)).trans hlo6, .inl ⟨.inl rfl, ⟨(f6'.upd (by omega)).upd (by omega), by omega, fun j hj h1' h2' => ?_, upd_same _ _ _, ⟨.ptr id 0, by rw [upd_ne _ _ (by omega), upd_same]; rfl, .inr ⟨id, sv, L[k], rfl, by rw [fnd_s hpk hk, hth]; rfl, a6, d1, d2⟩⟩, sm'⟩⟩, fun j hj hjn => ?_, ?_⟩
      · rw [upd_ne _ _ h2', upd_ne _ _ h1', keep6 j (by omega) h2']; exact p.kp j hj h1' h2'
      · rw [upd_ne _ _ (by omega), upd_ne _ _ (by omega), keep6 j (by omega) (by omega)]
      · rw [upd_ne _ _ (by omega), upd_ne _ _ (by omega), keep6 _ (by omega) (by omega)]
  · rintro v5 h5 n5 ⟨⟨e5, nS, hnS, hh⟩, hn5, f5⟩
    rcases hh with ⟨k, hk1, p, hk3⟩ | hr
    · refine ⟨_, p.lp, (fun q => by cases q), .normal, rfl, ?_⟩
      obtain ⟨c, hc1, hc2⟩ := p.cl
      have hns := p.ns
      obtain ⟨h7, hh7⟩ : ∃ h7, h7 = upd h5 (n + 1 + 1 + 1 + 1 + 1 + 1) (some (Blk.loop { L37 TM with state := .exhausted })) := ⟨_, rfl⟩
      have ho7 : ∀ j, j ≠ n + 1 + 1 + 1 + 1 + 1 + 1 → h7 j = h5 j := fun j hj => by rw [hh7, upd_ne _ _ hj]
      have f7 : Free h7 n5 := by rw [hh7]; exact f5.upd (by omega)
      show Kont env 37 none _ _ _ _ (upd h5 (n + 1 + 1 + 1 + 1 + 1 + 1) (some (Blk.loop { L37 TM with state := .exhausted }))) n5
      rw [← hh7]
      clear hh7
      have kp7 : ∀ j, j < n → h7 j = h j := fun j hj => by rw [ho7 j (by omega), lt j hj h5 p.kp, old6 j hj]
      have hcell : Row h7 (n + 1 + 1 + 1) [c] := ⟨_, (ho7 _ (by omega)).trans hc1⟩
      have res : h7 (n + 1 + 1) = some (Blk.row (Cont.l ty31.i.zero.cells) 31) := (ho7 _ (by omega)).trans ((p.kp _ (by omega) (by omega) (by omega)).trans g2)
      simp only [core1, execOp, opd, nth]
      rw [opv_rd (hcell.one (off := 0) rfl ti128 rfl)]
      rcases hc2 with ⟨rfl, hn⟩ | ⟨id, sw, w, rfl, hw, a, d1, d2⟩
      · simp only [core1, tyr, fgr, execOp, opd, ofValue, ops2, putT, put, nth, forgetL, und, bor, binOther, strK, aggK, equalTop, equal, nilFn, nilPtr, boolOf, Bool.and_true, Bool.or_true, b31z]
        rw [opv_wr (Row.write (v := .agg ty31.i.zero.cells) res ti31 rfl (by decide) rfl)]
        have spl : splice ty31.i.zero.cells 0 (AVal.agg ty31.i.zero.cells).cells = ty31.i.zero.cells := splice_all rfl
        rw [spl]
        simp only [core1, fgr, execOp, opd, ofValue, putT, put, nth, forgetL, true_and]
        refine wp_rdb (Row.whole (cs := ty31.i.zero.cells) (Row.new _ _ _ _) ti31 rfl rfl) ?_
        exact wp_pure.2 ⟨fun j hj => by rw [upd_ne _ _ (by omega), kp7 j hj], k, hk1, p.sm, hk3, .inl ⟨hn, rfl⟩⟩
      · simp only [core1, tyr, fgr, execOp, opd, ofValue, putT, put, nth, forgetL, und, bor, binOther, strK, aggK, equalTop, equal, nilFn, nilPtr, boolOf, Bool.and_true, Bool.or_true]
        rw [opv_rd (hcell.one (off := 0) rfl ti128 rfl)]
        have hwL := fnd_mem hw
        have okw := ok w hwL
        have hidn := iv.dn id d1
        have a7 : At h7 id sw w := a.keep ((ho7 id (by omega)).trans (lt id hidn h5 p.kp)) (fun j q => (ho7 j (by have := iv.dn j (d2 j q); omega)).trans (lt j (iv.dn j (d2 j q)) h5 p.kp))
        simp only [core1, execOp, opd, putT, put, nth, nilCheck]
        rw [opv_rd (row_all a7.row a7.ok)]
        simp only [core1, hkr, execOp, opd, opds, putT, put, nth, doCall, callV_func, List.nil_append, List.append_nil]
        refine opv_callf f7 (f77 w sw a7.ok h7 n5 a7.s (fun j q => by have := iv.dn j (d2 j q); omega) okw.2 f7) fun v8 h8 n8 hn8 f8 ⟨s', e8, b8, i8, o8⟩ => ?_
        subst e8
        simp only [core1, execOp, opd, putT, put, nth]
        have res8 : h8 (n + 1 + 1) = some (Blk.row (Cont.l ty31.i.zero.cells) 31) := (o8 _ (by omega)).trans res
        rw [opv_wr (Row.write (v := .agg (vcells w s')) res8 ti31 (vcells_len a7.ok.h a7.ok.b) (by decide) (vcells_cell b8.kind.2.1))]
        have spl : splice ty31.i.zero.cells 0 (AVal.agg (vcells w s')).cells = vcells w s' := splice_all (vcells_len a7.ok.h a7.ok.b)
        rw [spl]
        simp only [core1, fgr, execOp, opd, ofValue, putT, put, nth, forgetL, true_and]
        refine wp_rdb (row_all (Row.new _ _ _ _) a7.ok) ?_
        refine wp_pure.2 ⟨fun j hj => by rw [upd_ne _ _ (by omega), o8 j (by omega), kp7 j hj], k, hk1, p.sm, hk3, .inr ⟨w, s', hw, rfl, hwL, b8.keep fun j q => upd_ne _ _ (by have := i8 j q; omega), fun j q => by have := i8 j q; omega⟩⟩
    · exact hr.elim
/- The reference's comparisons of outpoints and versions. -/
theorem f89 (v w : AVal) (a b : List UInt8) (h : Hp) (n : Nat) (ha : Bytes h v a) (hb : Bytes h w b) : Wp (callI env (evalW env) 89 [v, w]) h n fun v' h' n' => v' = .bool (a == b) ∧ h' = h ∧ n' = n := by
  refine wp_callI ff89 fi89 ?_
  simp only [fu89, Try.f89, Option.getD_some, List.replicate, core1, fgr, execOp, opd, ofValue, putT, put, nth, forgetL, ended, resultOf, oneOrTup, List.cons_append, List.nil_append, List.length_cons, List.length_nil, Nat.reduceAdd, Nat.reduceSub, str_beq, Nat.zero_add, wp_pure, ha.str t29 t9 t5]
  rw [hb.str t29 t9 t5]
  simp only [core1, fgr, execOp, opd, putT, put, nth, forgetL, bor, strOp, strK, str_beq, and_self]
/- What is put and dropped, plainly. -/
theorem pos_le (o : Bool) (L : List Ver) (v : Ver) : pos o L v ≤ L.length := List.countP_le_length
/-- Every rising list has a place for one. -/
theorem pos_pos {o : Bool} {L : List Ver} (r : Rises o L) (v : Ver) : Pos o L v (pos o L v) := by
  induction L with
  | nil => exact ⟨Nat.le_refl _, fun k hk => absurd hk (Nat.not_lt_zero _), fun k hk => absurd hk (Nat.not_lt_zero _)⟩
  | cons a L ih =>
    have r' : Rises o L := (List.pairwise_cons.1 r).2
    have ra := (List.pairwise_cons.1 r).1
    have i := ih r'
    by_cases c : cmpO o a v < 0
    · have e : pos o (a :: L) v = pos o L v + 1 := by unfold pos; rw [List.countP_cons, if_pos (decide_eq_true c)]
      rw [e]
      refine ⟨by have := i.le; simp; omega, fun k hk h => ?_, fun k hk h => ?_⟩
      · cases k with
        | zero => exact c
        | succ k => exact i.lo k (by simpa using hk) (by omega)
      · cases k with
        | zero => omega
        | succ k => exact i.hi k (by simpa using hk) (by omega)
    · have all : ∀ b ∈ L, ¬ cmpO o b v < 0 := fun b hb h => c ((ordO o).lt _ _ _ (ra b hb) h)
      have e : pos o (a :: L) v = 0 := by
        unfold pos
        rw [List.countP_eq_zero]
        intro b hb
        rcases List.mem_cons.1 hb with rfl | hb
        · simpa using c
        · simpa using all b hb
      rw [e]
      refine ⟨Nat.zero_le _, fun k hk h => absurd h (Nat.not_lt_zero _), fun k hk h => ?_⟩
      cases k with
      | zero => exact c
      | succ k => exact all _ (List.getElem_mem _)
theorem pos_drop {L : List Ver} {w v : Ver} (r : Rises false L) (hw : w ∈ L) (he : cmpV w v = 0) : pos false (dropV L w) v = pos false L w := by
  obtain ⟨hp, hpw⟩ := pos_at r (pos_pos r w) hw
  have pm := (delL_perm hp).countP_eq (fun u => decide (cmpO false u w < 0))
  have e : ∀ u : Ver, cmpO false u v = cmpO false u w := fun u => (ordV.eqr (d := u) he).symm
  show (delL L (pos false L w)).countP (fun u => decide (cmpO false u v < 0)) = _
  simp only [e]
  rw [List.countP_cons, if_neg (by
    rw [hpw]
    have := ordV.refl w
    simp only [decide_eq_true_eq]
    show ¬ cmpV w w < 0
    omega)] at pm
  exact pm.symm
/-- A version in the place of one. -/
theorem put_drop {L : List Ver} {w v : Ver} (r : Rises false L) (hw : w ∈ L) (he : cmpV w v = 0) : putV (dropV L w) v = L.set (pos false L w) v := by
  obtain ⟨hp, hpw⟩ := pos_at r (pos_pos r w) hw
  have ht : (L.take (pos false L w)).length = pos false L w := by rw [List.length_take]; omega
  unfold putV
  rw [pos_drop r hw he]
  unfold dropV insL delL
  rw [List.take_left' ht, List.drop_left' ht, List.set_eq_take_append_cons_drop, if_pos hp]
/- A script's versions at a height. -/
noncomputable def L43 (tm : List AVal) : ALoop := { state := .ready, pending := none, fn := 43, tmps := tm, params := [19], assign := ra43_0, body := rb43_0 }
/-- A script, to be looked for. -/
def keyS (script : List UInt8) : Ver := ⟨List.replicate 32 0, 0, 0, 0, script, false, 0, List.replicate 32 0⟩
theorem keyS_ok (script : List UInt8) : (keyS script).Ok := ⟨rfl, rfl⟩
def z35 : List AVal := List.replicate 32 (.int .u8 0) ++ [.int .u32 0, .int .i64 0, .int .i64 0]
def z34 : List AVal := [.bool false, .int .i64 0] ++ List.replicate 32 (.int .u8 0)
theorem z31b : ty31.i.zero.cells = z35 ++ [.nils] ++ z34 := rfl
theorem build31s {sv : AVal} {script : List UInt8} (hs : sv.cells = [sv] ∧ oneCell sv = true ∧ isJunk sv = false) : build env 31 [(3, sv)] = M.pure (.agg (vcells (keyS script) sv)) := by
  have e1 : ∀ pl : Nat → Option (Nat × Nat), pl 3 = some (35, 1) → fill pl ty31.i.zero.cells [(3, sv)] = some (vcells (keyS script) sv) := fun pl p0 => by
    rw [z31b, fill_at p0 rfl rfl (by rw [hs.1]; rfl) hs.2.2, hs.1]
    simp only [fill]
    congr 1
  have e2 : build env 31 [(3, sv)] = (getO "build" (fill ([(0, 33), (33, 1), (34, 1), (35, 1), (36, 1), (37, 1), (38, 32)][·]?) ty31.i.zero.cells [(3, sv)])).bind fun cs => M.pure (.agg cs) := rfl
  rw [e2, e1 _ rfl]
  rfl
/-- Those told up to k. -/
def told (S : List Ver) (p k : Nat) (z : Int) : List Ver := ((S.take k).drop p).filter fun v => there v z
theorem told_0 (S : List Ver) (p : Nat) (z : Int) : told S p p z = [] := by
  unfold told
  rw [List.drop_eq_nil_of_le (by rw [List.length_take]; omega)]; rfl
theorem told_s {L : List Ver} {p k : Nat} (hp : p ≤ k) (hk : k < L.length) (z : Int) : told L p (k + 1) z = if there L[k] z then told L p k z ++ [L[k]] else told L p k z := by
  unfold told
  rw [List.take_add_one, List.getElem?_eq_getElem hk, List.drop_append_of_le_length (by rw [List.length_take]; omega), List.filter_append]
  by_cases c : there L[k] z = true
  · rw [if_pos c]; simp [c]
  · rw [if_neg c]; simp [c]
theorem told_le (L : List Ver) (p k : Nat) (z : Int) : (told L p k z).length ≤ L.length := by
  unfold told
  have h1 := List.length_filter_le (fun v => there v z) ((L.take k).drop p)
  have h2 : ((L.take k).drop p).length ≤ L.length := by rw [List.length_drop, List.length_take]; omega
  omega
structure P43 (H7 : Hp) (n : Nat) (S : List Ver) (script : List UInt8) (z : Int) (nS k : Nat) (h1 : Hp) (n1 : Nat) : Prop where
  fr : Free h1 n1
  n7 : n + 1 + 1 + 1 + 1 + 1 + 1 + 1 ≤ nS
  ns : nS ≤ n1
  kp : ∀ j, j < n + 1 + 1 + 1 + 1 + 1 + 1 + 1 → j ≠ n + 1 + 1 → j ≠ n + 1 + 1 + 1 + 1 + 1 + 1 → h1 j = H7 j
  cl : ∃ acc cells, h1 (n + 1 + 1) = some (.row (.l [acc]) 43) ∧ Lst h1 31 70 acc (told S (pos true S (keyS script)) k z).length cells ∧ Vs h1 (fun j => nS ≤ j ∧ j < n1 ∧ ownId acc ≠ some j) cells (told S (pos true S (keyS script)) k z) ∧ ∀ j, ownId acc = some j → nS ≤ j
  sm : ∀ i (hi : i < S.length), pos true S (keyS script) ≤ i → i < k → S[i].script = script
theorem f43 (x : Nat) (sv : AVal) (script : List UInt8) (z : Int) (L : List Ver) (D M : Nat → Prop) (h : Hp) (n : Nat) (hs : Ix h n D M x L) (hb : Bytes h sv script) (hsn : ∀ j, ownId sv = some j → j < n) (hc : L.length ≤ 1000000) (hf : Free h n) :
    Wp (callI env (evalW env) 43 [.ptr x 0, sv, .int .i64 z]) h n fun v' h' n' => Old h h' n ∧ ∃ S k, Rises true S ∧ L.Perm S ∧ pos true S (keyS script) ≤ k ∧ (∀ i (hi : i < S.length), pos true S (keyS script) ≤ i → i < k → S[i].script = script) ∧ (∀ hk : k < S.length, S[k].script ≠ script) ∧ VL h' n n' v' (told S (pos true S (keyS script)) k z) := by
  obtain ⟨⟨S, s0, rS, perm⟩, rL, ok⟩ := hs
  obtain ⟨vl, vs, xl, xs, iv, mx, ml, ms, mn⟩ := s0
  refine wp_callI ff43 fi43 ?_
  simp only [fu43, Try.f43, Option.getD_some, List.replicate, core1, execOp, opd, nth, ended, resultOf, oneOrTup, List.cons_append, List.nil_append, List.length_cons, List.length_nil, Nat.reduceAdd, Nat.reduceSub, Nat.zero_add, wp_pure]
  refine opv_box (v := sv) ti29 hb.kind.2.2 hf fun H1 r1 o1 f1 => ?_
  rw [hb.kind.1] at r1
  simp only [core1, execOp, opd, putT, put, nth]
  refine opv_box (v := .int .i64 z) ti3 rfl f1 fun H2 r2 o2 f2 => ?_
  simp only [core1, tyr, fgr, hkr, execOp, opd, opds, ofValue, putT, put, nth, forgetL, doCall, callV_func, zeroOf, cel, alloc, doAlloc, newRow, List.nil_append, List.append_nil]
  obtain ⟨H3, hH3⟩ : ∃ H3, H3 = upd H2 (n + 1 + 1) (some (Blk.row (Cont.l [AVal.nils]) 43)) := ⟨_, rfl⟩
  rw [← hH3]
  have f3 : Free H3 (n + 1 + 1 + 1) := by rw [hH3]; exact f2.new
  have o3 : ∀ j, j ≠ n + 1 + 1 → H3 j = H2 j := fun j hj => by rw [hH3, upd_ne _ _ hj]
  have r3 : H3 (n + 1 + 1) = some (Blk.row (Cont.l [AVal.nils]) 43) := by rw [hH3, upd_same]
  clear hH3
  have old3 : Old h H3 n := fun j hj => by rw [o3 j (by omega), o2 j (by omega), o1 j (by omega)]
  have r1' : Row H3 n [sv] := (r1.keep (o2 n (by omega))).keep (o3 n (by omega))
  have r2' : Row H3 (n + 1) [.int .i64 z] := r2.keep (o3 (n + 1) (by omega))
  refine opv_same (f73 x _ true H3 _ (iv.row.keep (old3 x iv.xn)) rfl) ?_
  simp only [core1, fgr, opd, putT, put, nth, forgetL, Bool.not_true]
  refine run_draw.2 ⟨rfl, ?_⟩
  simp only [fe_cons, fev_pure, core1, tyr, execOp, opd, putT, put, nth, und, sizeOf, nilCheck, getO, moved, fieldAddr, List.getElem?_cons_succ, List.getElem?_cons_zero, Nat.reduceAdd, Nat.zero_add]
  rw [fev_rd (r1'.one (off := 0) rfl ti29 rfl)]
  simp only [fe_cons, fev_pure, execOp, opd, ops2, putT, put, nth, cel, alloc, Nat.reduceAdd, build31s (script := script) hb.kind]
  refine fev_row' (xs := vcells (keyS script) sv) ti31 f3 fun H4 r4 o4 f4 => ?_
  simp only [fe_cons, hkr, execOp, opd, opds, putT, put, nth, doCall, callV_func, List.nil_append, List.append_nil, Nat.reduceAdd]
  refine fev_any f4 (f88 x 3 (n + 1 + 1 + 1) H4 _) fun v3 h3 n3 r3w w3 hn3 f5 ⟨e3, eh3, en3⟩ => ?_
  subst e3; subst en3
  simp only [fe_nil, core1, fgr, putT, put, forgetL, Nat.reduceAdd]
  refine ⟨(by (try simp (disch := first | assumption | omega) only [fine, List.all_cons, List.all_nil, clash_pl, clash_pr, clash_rr, Bool.not_false, Bool.true_or, Bool.and_true, Bool.true_and, clash_xn]); repeat' (first | rfl | exact (Bool.or_eq_true _ _).mpr (.inr rfl) | refine (Bool.and_eq_true _ _).mpr ⟨?_, ?_⟩)), ?_⟩
  have row4 : Row h3 (n + 1 + 1 + 1 + 1) [.ptr x 3] := by rw [eh3]; exact (Row.new _ _ _ _).upd (by omega)
  have row5 : Row h3 (n + 1 + 1 + 1 + 1 + 1) [.ptr (n + 1 + 1 + 1) 0] := by rw [eh3]; exact Row.new _ _ _ _
  have o5 : ∀ j, j < n + 1 + 1 + 1 + 1 → h3 j = H4 j := fun j hj => by rw [eh3, upd_ne _ _ (by omega), upd_ne _ _ (by omega)]
  clear eh3
  refine run_range (g := 109) (first := []) (cap := [.ptr (n + 1 + 1 + 1 + 1) 0, .ptr (n + 1 + 1 + 1 + 1 + 1) 0]) rfl rfl ?_
  let TM : List AVal := (.ptr x 0 :: sv :: .int .i64 z :: AVal.junk :: .ptr n 0 :: .ptr (n + 1) 0 :: .nils :: .ptr (n + 1 + 1) 0 :: undef :: AVal.junk :: .bool false :: AVal.junk :: AVal.junk :: AVal.junk :: AVal.junk :: AVal.junk :: AVal.junk :: AVal.junk :: .fn (.func 109) [] [.ptr (n + 1 + 1 + 1 + 1) 0, .ptr (n + 1 + 1 + 1 + 1 + 1) 0] :: undef :: AVal.junk :: AVal.junk :: AVal.junk :: AVal.junk :: AVal.junk :: AVal.junk :: undef :: AVal.junk :: AVal.junk :: AVal.junk :: AVal.junk :: undef :: AVal.junk :: AVal.junk :: AVal.junk :: AVal.junk :: AVal.junk :: AVal.junk :: AVal.junk :: AVal.junk :: [])
  obtain ⟨H7, hH7⟩ : ∃ H7, H7 = upd h3 (n + 1 + 1 + 1 + 1 + 1 + 1) (some (Blk.loop (L43 TM))) := ⟨_, rfl⟩
  show Wp (callF env (evalW env) 109 [AVal.fn (Fn.yield (n + 1 + 1 + 1 + 1 + 1 + 1)) [] [], AVal.ptr (n + 1 + 1 + 1 + 1) 0, AVal.ptr (n + 1 + 1 + 1 + 1 + 1) 0]) (upd h3 (n + 1 + 1 + 1 + 1 + 1 + 1) (some (Blk.loop (L43 TM)))) _ _
  rw [hk109, ← hH7]
  have f7 : Free H7 (n + 1 + 1 + 1 + 1 + 1 + 1 + 1) := by rw [hH7]; exact f5.new
  have o7 : ∀ j, j ≠ n + 1 + 1 + 1 + 1 + 1 + 1 → H7 j = h3 j := fun j hj => by rw [hH7, upd_ne _ _ hj]
  have g6 : H7 (n + 1 + 1 + 1 + 1 + 1 + 1) = some (.loop (L43 TM)) := by rw [hH7, upd_same]
  clear hH7
  have old7 : Old h H7 n := fun j hj => by rw [o7 j (by omega), o5 j (by omega), o4 j (by omega), old3 j hj]
  have g0 : Row H7 n [sv] := ((r1'.keep (o4 n (by omega))).keep (o5 n (by omega))).keep (o7 n (by omega))
  have g1 : Row H7 (n + 1) [.int .i64 z] := ((r2'.keep (o4 (n + 1) (by omega))).keep (o5 (n + 1) (by omega))).keep (o7 (n + 1) (by omega))
  have g2 : H7 (n + 1 + 1) = some (Blk.row (Cont.l [AVal.nils]) 43) := by rw [o7 _ (by omega), o5 _ (by omega), o4 _ (by omega)]; exact r3
  have g3 : Row H7 (n + 1 + 1 + 1) (vcells (keyS script) sv) := by
    refine Row.keep (h := H4) ⟨_, r4⟩ ?_
    rw [o7 _ (by omega), o5 _ (by omega)]
  have lt : ∀ (j : Nat), j < n → ∀ (h1 : Hp), (∀ j, j < n + 1 + 1 + 1 + 1 + 1 + 1 + 1 → j ≠ n + 1 + 1 → j ≠ n + 1 + 1 + 1 + 1 + 1 + 1 → h1 j = H7 j) → h1 j = H7 j := fun j hj h1 hk => hk j (by omega) (by omega) (by omega)
  have hS : S.length = L.length := perm.length_eq.symm
  have kt : AtN H7 (n + 1 + 1 + 1 + 1 + 1 + 1 + 1) (n + 1 + 1 + 1) sv (keyS script) := ⟨⟨g3, hb.keep (fun j q => old7 j (hsn j q)), keyS_ok _⟩, by omega, fun j q => by have := hsn j q; omega⟩
  have sl7 := iv.s.keep (h' := H7) (fun j q => old7 j (mn j (ms j q)).1)
  have sp7 := iv.sp.mono (h' := H7) (D' := D) (fun j q => q) (fun j q => old7 j (iv.dn j q))
  have hro : Roomy vs := by
    have q := iv.s
    generalize S.length = len at q
    cases q with
    | nil => trivial
    | zero => exact Nat.le_refl _
    | sl => trivial
  refine wp_mono ((f109 true (.fn (.yield (n + 1 + 1 + 1 + 1 + 1 + 1)) [] []) (n + 1 + 1 + 1 + 1) (n + 1 + 1 + 1 + 1 + 1) x 3 _ vs (n + 1 + 1 + 1) sv (keyS script) S.length xs S D
    (fun k h1 n1 => ∃ nS, P43 H7 n S script z nS k h1 n1 ∧ h1 (n + 1 + 1 + 1 + 1 + 1 + 1) = some (.loop (L43 TM)))
    (fun h1 n1 => ∃ l nS k, h1 (n + 1 + 1 + 1 + 1 + 1 + 1) = some (.loop l) ∧ l.state = .done ∧ l.pending = some (.exit 0) ∧ pos true S (keyS script) ≤ k ∧ P43 H7 n S script z nS k h1 n1 ∧ ∀ hk : k < S.length, S[k].script ≠ script)
    H7 (n + 1 + 1 + 1 + 1 + 1 + 1 + 1) (row4.keep (o7 _ (by omega))) (row5.keep (o7 _ (by omega))) (iv.row.keep (old7 x iv.xn)) rfl rfl (by omega) sl7.rds hro (fun j q => by have := (mn j (ms j q)).1; omega) sp7 (fun j q => by have := iv.dn j q; omega) kt (rS.mono _) f7 (by omega) (by have := iv.xn; omega) ?_ ?_ ?_).free f7) ?_
  · rintro k h1 n1 ⟨nS, p, _⟩
    exact ⟨sl7.rds.keep (fun j q => lt j (mn j (ms j q)).1 h1 p.kp), sp7.mono (fun j q => q) (fun j q => lt j (iv.dn j q) h1 p.kp), p.fr⟩
  · intro p h' n' hpos hn' hf' ho'
    rw [hpos.eq]
    exact ⟨n', ⟨hf', by omega, Nat.le_refl _, fun j hj _ _ => ho' j hj, ⟨.nils, [], (ho' _ (by omega)).trans g2, by rw [told_0]; exact .nil, by rw [told_0]; exact Vs.nil _ _, fun j q => by cases q⟩, fun i hi h1 h2 => by omega⟩, (ho' _ (by omega)).trans g6⟩
  · rintro p k hk id sv2 h1 n1 hpos hpk ⟨nS, pp, hlo⟩ hx a d1 d2
    have hpk' : pos true S (keyS script) ≤ k := by rw [← hpos.eq]; exact hpk
    have hidn := iv.dn id d1
    have h77 := pp.n7
    have hns := pp.ns
    refine wp_yield hlo rfl rfl ?_
    simp only [ra43_0, List.getD_cons_zero, putAll, List.zip_cons_cons, List.zip_nil_left, L43, TM, rangesOf, Try.f43, Option.getD_some, core1, fgr, execOp, opd, putT, put, nth, forgetL, List.nil_append, List.append_nil, true_and]
    refine ⟨_, hlo, rfl, ?_⟩
    obtain ⟨h2, hh2⟩ : ∃ h2, h2 = upd h1 (n + 1 + 1 + 1 + 1 + 1 + 1) (some (Blk.loop { L43 TM with state := .busy })) := ⟨_, rfl⟩
    have ho2 : ∀ j, j ≠ n + 1 + 1 + 1 + 1 + 1 + 1 → h2 j = h1 j := fun j hj => by rw [hh2, upd_ne _ _ hj]
    have hlo2 : h2 (n + 1 + 1 + 1 + 1 + 1 + 1) = some (.loop { L43 TM with state := .busy }) := by rw [hh2, upd_same]
    have hf2 : Free h2 n1 := by rw [hh2]; exact pp.fr.upd (by omega)
    show Run env 43 _ _ _ _ _ (upd h1 (n + 1 + 1 + 1 + 1 + 1 + 1) (some (Blk.loop { L43 TM with state := .busy }))) n1
    rw [← hh2]
    clear hh2
    have a2 : At h2 id sv2 S[k] := a.keep (ho2 id (by omega)) (fun j q => ho2 j (by have := iv.dn j (d2 j q); omega))
    have to7 : ∀ j, j < n + 1 + 1 → h2 j = H7 j := fun j hj => (ho2 j (by omega)).trans (pp.kp j (by omega) (by omega) (by omega))
    have rs : Row h2 n [sv] := g0.keep (to7 n (by omega))
    have rz : Row h2 (n + 1) [.int .i64 z] := g1.keep (to7 (n + 1) (by omega))
    have bs : Bytes h2 sv script := hb.keep (fun j q => (to7 j (by have := hsn j q; omega)).trans (old7 j (hsn j q)))
    obtain ⟨acc, cells, q1, q2, q3, q4⟩ := pp.cl
    simp only [rb43_0, List.getD_cons_zero, rangesOf, Try.f43, Option.getD_some, core1, List.nil_append, List.append_nil]
    refine run_draw.2 ⟨rfl, ?_⟩
    simp only [fe_cons, fev_pure, core1, tyr, execOp, opd, putT, put, nth, und, sizeOf, nilCheck, getO, moved, fieldAddr, List.getElem?_cons_succ, List.getElem?_cons_zero, Nat.reduceAdd, Nat.zero_add]
    rw [fev_rd (row_script a2.row a2.ok)]
    simp only [fe_cons, execOp, opd, putT, put, nth, Nat.reduceAdd]
    rw [fev_rd (rs.one (off := 0) rfl ti29 rfl)]
    simp only [fe_cons, hkr, execOp, opd, opds, putT, put, nth, doCall, callV_func, List.nil_append, List.append_nil, Nat.reduceAdd]
    refine fev_any hf2 (f89 sv2 sv _ script h2 n1 a2.s bs) fun v6 h6 n6 r6 w6 hn6 f6' ⟨e6, e7, e8⟩ => ?_
    subst e6; subst e7; subst e8
    cases hq : (S[k].script == script) with
    | false =>
      simp only [fe_nil, fe_cons, fev_pure, core1, cont_block_any, fgr, execOp, opd, putT, put, nth, forgetL, unOp, Nat.reduceAdd, Bool.not_false]
      refine ⟨(by (try simp (disch := first | assumption | omega) only [fine, List.all_cons, List.all_nil, clash_pl, clash_pr, clash_rr, Bool.not_false, Bool.true_or, Bool.and_true, Bool.true_and]); repeat' (first | rfl | exact (Bool.or_eq_true _ _).mpr (.inr rfl) | refine (Bool.and_eq_true _ _).mpr ⟨?_, ?_⟩)), _, hlo2, .inr ⟨.inl rfl, _, nS, k, upd_same _ _ _, rfl, rfl, hpk', ⟨hf2.upd (by omega), h77, hns, fun j hj h1' h2' => by rw [upd_ne _ _ h2', ho2 j h2']; exact pp.kp j hj h1' h2', ⟨acc, cells, by rw [upd_ne _ _ (by omega), ho2 _ (by omega)]; exact q1, q2.keep (fun j q => by rw [upd_ne _ _ (by have := q4 j q; omega), ho2 _ (by have := q4 j q; omega)]), q3.mono (fun j q => q) (fun j q => by rw [upd_ne _ _ (by omega), ho2 _ (by omega)]), q4⟩, pp.sm⟩, fun _ => beq_eq_false_iff_ne.1 hq⟩⟩
    | true =>
      simp only [fe_nil, fe_cons, fev_pure, core1, fgr, execOp, opd, putT, put, nth, forgetL, unOp, Nat.reduceAdd, Bool.not_true]
      refine ⟨(by (try simp (disch := first | assumption | omega) only [fine, List.all_cons, List.all_nil, clash_pl, clash_pr, clash_rr, Bool.not_false, Bool.true_or, Bool.and_true, Bool.true_and]); repeat' (first | rfl | exact (Bool.or_eq_true _ _).mpr (.inr rfl) | refine (Bool.and_eq_true _ _).mpr ⟨?_, ?_⟩)), ?_⟩
      have hsc : S[k].script = script := beq_iff_eq.1 hq
      have sm' : ∀ i (hi : i < S.length), pos true S (keyS script) ≤ i → i < k + 1 → S[i].script = script := fun i hi h1' h2' => by
        by_cases e : i = k
        · subst e; exact hsc
        · exact pp.sm i hi h1' (by omega)
      refine run_draw.2 ⟨rfl, ?_⟩
      simp only [fe_cons, fev_pure, execOp, opd, putT, put, nth, nilCheck, Nat.reduceAdd, Nat.zero_add]
      rw [fev_rd (row_all a2.row a2.ok)]
      simp only [fe_cons, execOp, opd, putT, put, nth, Nat.reduceAdd]
      rw [fev_rd (rz.one (off := 0) rfl ti3 rfl)]
      simp only [fe_cons, hkr, execOp, opd, opds, putT, put, nth, doCall, callV_func, List.nil_append, List.append_nil, Nat.reduceAdd]
      refine fev_any hf2 (f82 S[k] sv2 a2.ok z h6 n6 hf2) fun v7 h8 n8 r7 w7 hn8 f8 ⟨e7, o8⟩ => ?_
      subst e7
      have hlo8 : h8 (n + 1 + 1 + 1 + 1 + 1 + 1) = some (.loop { L43 TM with state := .busy }) := (o8 _ (by omega)).trans hlo2
      have keep8 : ∀ j, j < n6 → j ≠ n + 1 + 1 + 1 + 1 + 1 + 1 → h8 j = h1 j := fun j hj hne => (o8 j hj).trans (ho2 j hne)
      cases hth : there S[k] z with
      | false =>
        simp only [fe_nil, core1, fgr, opd, putT, put, nth, forgetL, Nat.reduceAdd]
        refine ⟨(by (try simp (disch := first | assumption | omega) only [fine, List.all_cons, List.all_nil, clash_pl, clash_pr, clash_rr, Bool.not_false, Bool.true_or, Bool.and_true]); repeat' (first | rfl | exact (Bool.or_eq_true _ _).mpr (.inr rfl) | refine (Bool.and_eq_true _ _).mpr ⟨?_, ?_⟩)), _, hlo8, .inl ⟨.inl rfl, nS, ⟨f8.upd (by omega), h77, by omega, fun j hj h1' h2' => by rw [upd_ne _ _ h2', keep8 j (by omega) h2']; exact pp.kp j hj h1' h2', ⟨acc, cells, by rw [upd_ne _ _ (by omega), keep8 _ (by omega) (by omega)]; exact q1, ?_, ?_, q4⟩, sm'⟩, upd_same _ _ _⟩⟩
        · rw [told_s hpk' hk, hth]
          exact q2.keep (fun j q => by rw [upd_ne _ _ (by have := q4 j q; omega), keep8 _ (q2.live pp.fr q) (by have := q4 j q; omega)])
        · rw [told_s hpk' hk, hth]
          exact q3.mono (fun j q => ⟨q.1, by omega, q.2.2⟩) (fun j q => by rw [upd_ne _ _ (by omega), keep8 _ q.2.1 (by omega)])
      | true =>
        simp only [fe_nil, core1, fgr, opd, putT, put, nth, forgetL, Nat.reduceAdd]
        refine ⟨(by (try simp (disch := first | assumption | omega) only [fine, List.all_cons, List.all_nil, clash_pl, clash_pr, clash_rr, Bool.not_false, Bool.true_or, Bool.and_true]); repeat' (first | rfl | exact (Bool.or_eq_true _ _).mpr (.inr rfl) | refine (Bool.and_eq_true _ _).mpr ⟨?_, ?_⟩)), ?_⟩
        have a8 : At h8 id sv2 S[k] := a2.keep (o8 id (by omega)) (fun j q => o8 j (by have := iv.dn j (d2 j q); omega))
        have cell : Row h8 (n + 1 + 1) [acc] := ⟨_, (keep8 _ (by omega) (by omega)).trans q1⟩
        refine run_draw.2 ⟨rfl, ?_⟩
        simp only [fe_cons, execOp, opd, nth]
        rw [fev_rd (cell.one (off := 0) rfl ti43 rfl)]
        simp only [fe_cons, fev_pure, execOp, opd, putT, put, nth, nilCheck, Nat.reduceAdd, Nat.zero_add]
        rw [fev_rd (row_all a8.row a8.ok)]
        simp only [fe_cons, hkr, execOp, opd, opds, putT, put, nth, doCall, callV_func, List.nil_append, List.append_nil, Nat.reduceAdd]
        have fo8 : Free (only (fun j => decide (ownId sv2 = some j)) h8) n8 := fun j hj => by
          unfold only
          split
          · exact f8 j hj
          · rfl
        refine fev_in (fun j => decide (ownId sv2 = some j)) f8 (f77 S[k] sv2 a8.ok (only (fun j => decide (ownId sv2 = some j)) h8) n8 (a8.s.keep fun j q => only_in (decide_eq_true q)) (fun j q => by have := iv.dn j (d2 j q); omega) (ok _ (perm.mem_iff.2 (List.getElem_mem hk))).2 fo8) fun v9 h9 n9 r9 w9 hr9 hn9 f9 ⟨s', e9, b9, i9, o9⟩ hin hout hr hw => ?_
        subst e9
        have old9 : Old h8 h9 n8 := fun j hj => by
          by_cases q : ownId sv2 = some j
          · rw [hin j (.inl (decide_eq_true q)), o9 j hj, only_in (decide_eq_true q)]
          · exact hout j hj (decide_eq_false q)
        have b9' : Bytes h9 s' S[k].script := b9.keep (fun j q => hin j (.inr (i9 j q).1))
        simp only [fe_cons, execOp, opd, ops2, putT, put, nth, Nat.reduceAdd, bs43 (vcells_len a8.ok.h a8.ok.b)]
        refine fev_row' ti31 f9 fun H10 r10 o10 f10 => ?_
        simp only [fe_cons, execOp, opd, opds, putT, put, nth, doCall, builtin, two2, Nat.reduceAdd]
        have old10 : Old h8 H10 n8 := fun j hj => by rw [o10 j (by omega), old9 j hj]
        have accl : ∀ j, ownId acc = some j → j < n6 := fun j q => q2.live pp.fr q
        have acck : ∀ j, ownId acc = some j → H10 j = h1 j := fun j q => by rw [old10 j (by have := accl j q; omega), keep8 j (accl j q) (by have := q4 j q; omega)]
        have tl := told_le S (pos true S (keyS script)) k z
        refine fev_any f10 (wp_lst_append (i := ty31.i) (e := 31) (Q1 := fun v' h' n' => n9 + 1 ≤ n' ∧ Free h' n' ∧ Lst h' 31 70 v' ((told S (pos true S (keyS script)) k z).length + 1) (cells ++ vcells S[k] s') ∧ (ownId v' = ownId acc ∨ ownId v' = some (n9 + 1) ∧ n9 + 1 < n') ∧ ∀ j, j < n9 + 1 → ownId acc ≠ some j → h' j = H10 j) (q2.keep acck) (row_rds (cnt := 1) r10 (by rw [vcells_len a8.ok.h a8.ok.b]; rfl)) u43 u43 ti31 (vcells_cell b9.kind.2.1) (by decide) (by show 2 * (_ + 1) * 128 ≤ _; omega) (by omega) f10 (fun v' h' n' a b c d e => ⟨a, b, c, d, e⟩)) fun v11 h11 n11 r11 w11 hn11 f11 ⟨_, _, l11, i11, o11⟩ => ?_
        have o111 : ∀ j, j < n8 → ownId acc ≠ some j → j ≠ n + 1 + 1 + 1 + 1 + 1 + 1 → j < n6 → h11 j = h1 j := fun j a b c d => by rw [o11 j (by omega) b, old10 j a, keep8 j d c]
        have c11 : h11 (n + 1 + 1) = some (Blk.row (Cont.l [acc]) 43) := (o111 _ (by omega) (fun q => by have := q4 _ q; omega) (by omega) (by omega)).trans q1
        have l11n : ∀ j, j < n9 + 1 → ownId acc ≠ some j → ownId v11 ≠ some j := fun j hj hn q => by
          rcases i11 with w | ⟨w, _⟩
          · rw [w] at q; exact hn q
          · rw [w] at q; injection q with q; omega
        have nw : n + 1 + 1 ∉ w9 := fun q => by have := iv.dn _ (d2 _ (of_decide_eq_true (hw _ q))); omega
        have nr : n + 1 + 1 ∉ r9 := fun q => by have := iv.dn _ (d2 _ (of_decide_eq_true (hr _ q))); omega
        have v11k := l11.rds.kind
        have v11n : ∀ j, ownId v11 = some j → nS ≤ j := fun j q => by
          rcases i11 with w | ⟨w, _⟩
          · rw [w] at q; exact q4 j q
          · rw [w] at q; injection q with q; omega
        simp only [fe_cons, execOp, opd, putT, put, nth, Nat.reduceAdd]
        refine fev_wr (Row.write (v := v11) c11 ti43 (by rw [v11k.1]; rfl) (by show 0 + 1 ≤ 1; omega) (by rw [v11k.1]; simp [v11k.2.1])) ?_
        rw [v11k.1, show splice [acc] 0 [v11] = [v11] from rfl]
        simp only [fe_nil, core1, fgr, putT, forgetL, Nat.reduceAdd]
        refine ⟨(by (try simp (disch := first | assumption | omega) only [fine, List.all_cons, List.all_nil, clash_pl, clash_pr, clash_rr, Bool.not_false, Bool.true_or, Bool.and_true, Bool.true_and, clash_rw, clash_nw, clash_xn, clash_xs]); repeat' (first | rfl | exact (Bool.or_eq_true _ _).mpr (.inr rfl) | refine (Bool.and_eq_true _ _).mpr ⟨?_, ?_⟩)), _, (upd_ne _ _ (by omega)).trans ((o11 _ (by omega) (fun q => by have := q4 _ q; omega)).trans ((old10 _ (by omega)).trans hlo8)), .inl ⟨.inl rfl, nS, ⟨(f11.upd (by omega)).upd (by omega), h77, by omega, fun j hj h1' h2' => ?_, ⟨v11, cells ++ vcells S[k] s', by rw [upd_ne _ _ (by omega), upd_same], ?_, ?_, v11n⟩, sm'⟩, upd_same _ _ _⟩⟩
        · rw [upd_ne _ _ h2', upd_ne _ _ h1', o111 j (by omega) (fun q => by have := q4 j q; omega) h2' (by omega)]; exact pp.kp j hj h1' h2'
        · rw [told_s hpk' hk, hth, if_pos rfl, List.length_append]
          exact l11.keep (fun j q => by rw [upd_ne _ _ (by have := v11n j q; omega), upd_ne _ _ (by have := v11n j q; omega)])
        · rw [told_s hpk' hk, hth, if_pos rfl]
          have ne2 : ∀ j, nS ≤ j → ∀ (H : Hp) b b2, upd (upd H (n + 1 + 1) b) (n + 1 + 1 + 1 + 1 + 1 + 1) b2 j = H j := fun j hj H b b2 => by rw [upd_ne _ _ (by omega), upd_ne _ _ (by omega)]
          refine (q3.mono (fun j q => ⟨q.1, by omega, l11n j (by omega) q.2.2⟩) (fun j q => by rw [ne2 j q.1, o111 j (by omega) q.2.2 (by omega) q.2.1])).snoc (b9'.keep fun j q => ?_) a8.ok (fun j q => ⟨by have := i9 j q; omega, by have := i9 j q; omega, l11n j (by have := i9 j q; omega) (fun w => by have := accl j w; have := i9 j q; omega)⟩)
          rw [ne2 j (by have := i9 j q; omega), o11 j (by have := i9 j q; omega) (fun w => by have := accl j w; have := i9 j q; omega), o10 j (by have := i9 j q; omega)]
  · rintro v5 h5 n5 ⟨⟨e5, hh⟩, hn5, f5'⟩
    have fin : ∀ (lo : ALoop) (nS k : Nat), pos true S (keyS script) ≤ k → P43 H7 n S script z nS k h5 n5 → (∀ hk : k < S.length, S[k].script ≠ script) →
        ∃ acc, Row (upd h5 (n + 1 + 1 + 1 + 1 + 1 + 1) (some (.loop lo))) (n + 1 + 1) [acc] ∧ Old h (upd h5 (n + 1 + 1 + 1 + 1 + 1 + 1) (some (.loop lo))) n ∧ ∃ S k, Rises true S ∧ L.Perm S ∧ pos true S (keyS script) ≤ k ∧ (∀ i (hi : i < S.length), pos true S (keyS script) ≤ i → i < k → S[i].script = script) ∧ (∀ hk : k < S.length, S[k].script ≠ script) ∧ VL (upd h5 (n + 1 + 1 + 1 + 1 + 1 + 1) (some (.loop lo))) n n5 acc (told S (pos true S (keyS script)) k z) := by
      intro lo nS k hk1 p hk3
      obtain ⟨acc, cells, c1, c2, c3, c4⟩ := p.cl
      have h7 := p.n7
      refine ⟨acc, ⟨_, (upd_ne _ _ (by omega)).trans c1⟩, fun j hj => ?_, S, k, rS, perm, hk1, p.sm, hk3, cells, c2.keep (fun j q => upd_ne _ _ (by have := c4 j q; omega)), c3.mono (fun j q => ⟨by omega, q.2.1, q.2.2⟩) (fun j q => upd_ne _ _ (by omega)), fun j q => ⟨by have := c4 j q; omega, c2.live p.fr q⟩⟩
      rw [upd_ne _ _ (by omega), lt j hj h5 p.kp, old7 j hj]
    rcases hh with ⟨nS, p, hlo⟩ | ⟨l, nS, k, hlo, hst, hpe, hk1, p, hk3⟩
    · refine ⟨_, hlo, (fun q => by cases q), .normal, rfl, ?_⟩
      obtain ⟨acc, hrow, res⟩ := fin { L43 TM with state := .exhausted } nS S.length (pos_le _ _ _) p (fun hk => absurd hk (Nat.lt_irrefl _))
      simp only [core1, execOp, opd, nth]
      rw [opv_rd (hrow.one (off := 0) rfl ti43 rfl)]
      simp only [core1, fgr, execOp, opd, putT, put, nth, forgetL, true_and]
      exact res
    · refine ⟨_, hlo, (fun q => by rw [hst] at q; cases q), .exit 0, by rw [hpe], ?_⟩
      obtain ⟨acc, hrow, res⟩ := fin { l with state := .exhausted } nS k hk1 p hk3
      simp only [core1, execOp, opd, nth]
      rw [opv_rd (hrow.one (off := 0) rfl ti43 rfl)]
      simp only [core1, fgr, execOp, opd, putT, put, nth, forgetL, true_and]
      exact res
/-- Two rising lists of the same versions. -/
theorem rises_perm {o : Bool} : ∀ {A B : List Ver}, Rises o A → Rises o B → A.Perm B → A = B
  | [], B, _, _, h => (List.nil_perm.1 h).symm
  | a :: A, [], _, _, h => absurd (List.perm_nil.1 h) (by simp)
  | a :: A, b :: B, ra, rb, h => by
    have ha := List.pairwise_cons.1 ra
    have hb := List.pairwise_cons.1 rb
    have e : a = b := by
      by_cases q : a = b
      · exact q
      · have h1 : a ∈ B := (List.mem_cons.1 (h.mem_iff.1 List.mem_cons_self)).resolve_left q
        have h2 : b ∈ A := (List.mem_cons.1 (h.mem_iff.2 List.mem_cons_self)).resolve_left (fun w => q w.symm)
        have c1 := ha.1 b h2
        have c2 := hb.1 a h1
        have := (ordO o).anti a b
        omega
    subst e
    rw [rises_perm ha.2 hb.2 ((List.perm_cons a).1 h)]
def cmpQ (a b : Ver) : Int := cmpP a.hash a.pn b.hash b.pn
theorem ordQ : Ord3 cmpQ := (ord_bytes.on Ver.hash).or (ord_cmpI.on Ver.pn)
theorem same_iff {hash : List UInt8} {pn : Int} {v : Ver} : same hash pn v = true ↔ cmpP v.hash v.pn hash pn = 0 := by
  unfold same cmpP orI
  constructor
  · intro h
    simp only [Bool.and_eq_true, decide_eq_true_eq, beq_iff_eq] at h
    rw [h.1, h.2, if_pos (cb_refl _)]
    exact cmpI_eq.2 rfl
  · intro h
    split at h
    · rename_i q
      rw [cb_eq _ _ q, cmpI_eq.1 h]
      simp
    · contradiction
/-- What there is of an outpoint at a height: the last one. -/
def atV (L : List Ver) (hash : List UInt8) (pn z : Int) : Option Ver := (L.filter fun v => same hash pn v && there v z).getLast?
/-- What may stand in an index. -/
def Good (v : Ver) : Prop := errV v = false ∧ 0 ≤ v.pn
theorem Good.made {v : Ver} (h : Good v) : 0 ≤ v.made := by
  have := h.1
  unfold errV at this
  simp only [Bool.or_eq_false_iff, decide_eq_false_iff_not] at this
  omega
theorem orI_neg {a b : Int} (h : orI a b < 0) : a ≤ 0 := by
  unfold orI at h
  split at h <;> omega
theorem orI_nn {a b : Int} (h : ¬ orI a b < 0) (hn : a ≠ 0) : 0 < a := by
  unfold orI at h
  rw [if_neg hn] at h
  omega
theorem past {o : Ver → Ver → Int} (q : Ord3 o) {a b t : Ver} (h1 : 0 < o a t) (h2 : o a b ≤ 0) : 0 < o b t := by
  have e1 := q.anti a t
  have e2 := q.anti b t
  rcases Int.lt_or_eq_of_le h2 with w | w
  · have := q.lt t a b (by omega) w; omega
  · have := q.eqr (d := t) w; omega
/-- A part of a list, cut out by a test. -/
theorem cut_filter {L : List Ver} {p k : Nat} (hpk : p ≤ k) (P th : Ver → Bool) (h1 : ∀ i (hi : i < L.length), i < p → P L[i] = false) (h2 : ∀ i (hi : i < L.length), p ≤ i → i < k → P L[i] = true) (h3 : ∀ i (hi : i < L.length), k ≤ i → P L[i] = false) :
    ((L.take k).drop p).filter th = L.filter fun v => P v && th v := by
  have e : L = L.take p ++ ((L.take k).drop p ++ L.drop k) := by
    rw [← List.append_assoc]
    have : L.take p = (L.take k).take p := by rw [List.take_take, Nat.min_eq_left hpk]
    rw [this, List.take_append_drop, List.take_append_drop]
  conv => rhs; rw [e]
  rw [List.filter_append, List.filter_append]
  have f1 : (L.take p).filter (fun v => P v && th v) = [] := by
    rw [List.filter_eq_nil_iff]
    intro a ha
    obtain ⟨i, hi, rfl⟩ := List.mem_iff_getElem.1 ha
    rw [List.length_take] at hi
    rw [List.getElem_take, h1 i (by omega) (by omega)]
    simp
  have f3 : (L.drop k).filter (fun v => P v && th v) = [] := by
    rw [List.filter_eq_nil_iff]
    intro a ha
    obtain ⟨i, hi, rfl⟩ := List.mem_iff_getElem.1 ha
    rw [List.length_drop] at hi
    rw [List.getElem_drop, h3 (k + i) (by omega) (by omega)]
    simp
  rw [f1, f3, List.append_nil, List.nil_append]
  refine List.filter_congr fun a ha => ?_
  obtain ⟨i, hi, rfl⟩ := List.mem_iff_getElem.1 ha
  rw [List.length_drop, List.length_take] at hi
  have q := h2 (p + i) (by omega) (by omega) (by omega)
  rw [List.getElem_drop, List.getElem_take, q, Bool.true_and]
theorem at_cut {L : List Ver} {hash : List UInt8} {pn : Int} {k : Nat} (r : Rises false L) (g : ∀ v ∈ L, Good v) (hk : pos false L (key hash pn 0) ≤ k)
    (sm : ∀ i (hi : i < L.length), pos false L (key hash pn 0) ≤ i → i < k → same hash pn L[i] = true) (ne : ∀ hk : k < L.length, same hash pn L[k] = false) (th : Ver → Bool) :
    ((L.take k).drop (pos false L (key hash pn 0))).filter th = L.filter fun v => same hash pn v && th v := by
  have P := pos_pos r (key hash pn 0)
  have nn : ∀ i (hi : i < L.length), pos false L (key hash pn 0) ≤ i → same hash pn L[i] = false → 0 < cmpQ L[i] (key hash pn 0) := fun i hi h1 h2 =>
    orI_nn (P.hi i hi h1) fun q => by have w : same hash pn L[i] = true := same_iff.2 q; rw [w] at h2; cases h2
  refine cut_filter hk _ _ (fun i hi h => ?_) sm (fun i hi h => ?_)
  · cases hs : same hash pn L[i] with
    | false => rfl
    | true =>
      have h0 := P.lo i hi h
      have h1 : cmpP L[i].hash L[i].pn hash pn = 0 := same_iff.1 hs
      have h2 : cmpV L[i] (key hash pn 0) = cmpI L[i].made 0 := by
        show orI (cmpP L[i].hash L[i].pn hash pn) _ = _
        rw [h1]; rfl
      have h3 := (g _ (List.getElem_mem hi)).made
      have h4 : cmpV L[i] (key hash pn 0) < 0 := h0
      rw [h2, cmpI_lt] at h4
      omega
  · have hkl : k < L.length := by omega
    have h1 := nn k hkl hk (ne hkl)
    have h2 : 0 < cmpQ L[i] (key hash pn 0) := by
      by_cases q : i = k
      · subst q; exact h1
      · exact past ordQ h1 (orI_neg (r.at_ hkl hi (by omega)))
    cases hs : same hash pn L[i] with
    | false => rfl
    | true =>
      have : cmpQ L[i] (key hash pn 0) = 0 := same_iff.1 hs
      omega
theorem at_eq {L : List Ver} {hash : List UInt8} {pn z : Int} {k : Nat} (r : Rises false L) (g : ∀ v ∈ L, Good v) (hk : pos false L (key hash pn 0) ≤ k)
    (sm : ∀ i (hi : i < L.length), pos false L (key hash pn 0) ≤ i → i < k → same hash pn L[i] = true) (ne : ∀ hk : k < L.length, same hash pn L[k] = false) :
    fnd L (pos false L (key hash pn 0)) k z = atV L hash pn z := by
  unfold fnd atV
  rw [at_cut r g hk sm ne]
theorem cb_zeros : ∀ (l : List UInt8), ¬ Lib.compareBytes l (List.replicate l.length 0) < 0
  | [] => by decide
  | a :: l => by
    rw [List.length_cons, List.replicate_succ]
    unfold Lib.compareBytes
    have h1 : ¬ a < 0 := by simp [UInt8.lt_iff_toNat_lt]
    rw [if_neg h1]
    split
    · omega
    · exact cb_zeros l
theorem of_nn {v : Ver} {script : List UInt8} (o : v.Ok) (g : Good v) (hs : v.script = script) : ¬ cmpS v (keyS script) < 0 := by
  have e1 : cmpS v (keyS script) = cmpV v (keyS script) := by
    show orI (Lib.compareBytes v.script script) _ = _
    rw [hs, cb_refl]; rfl
  rw [e1]
  have e2 : cmpV v (keyS script) = orI (orI (Lib.compareBytes v.hash (List.replicate 32 0)) (cmpI v.pn 0)) (cmpI v.made 0) := rfl
  rw [e2]
  have z := cb_zeros v.hash
  rw [o.h] at z
  have m := g.made
  have p := g.2
  have n1 : ¬ cmpI v.pn 0 < 0 := by rw [cmpI_lt]; omega
  have n2 : ¬ cmpI v.made 0 < 0 := by rw [cmpI_lt]; omega
  unfold orI
  split
  · split
    · exact n2
    · exact n1
  · exact z
/-- What there is of a script at a height. -/
def ofV (L : List Ver) (script : List UInt8) (z : Int) : List Ver := L.filter fun v => (v.script == script) && there v z
theorem of_eq {L S : List Ver} {script : List UInt8} {z : Int} {k : Nat} (rL : Rises false L) (rS : Rises true S) (perm : L.Perm S) (ok : ∀ v ∈ L, v.Ok) (g : ∀ v ∈ L, Good v) (hk : pos true S (keyS script) ≤ k)
    (sm : ∀ i (hi : i < S.length), pos true S (keyS script) ≤ i → i < k → S[i].script = script) (ne : ∀ hk : k < S.length, S[k].script ≠ script) :
    told S (pos true S (keyS script)) k z = ofV L script z := by
  have P := pos_pos rS (keyS script)
  have ordB : Ord3 (fun a b : Ver => Lib.compareBytes a.script b.script) := ord_bytes.on Ver.script
  have e1 : told S (pos true S (keyS script)) k z = S.filter fun v => (v.script == script) && there v z := by
    refine cut_filter hk (fun v => v.script == script) _ (fun i hi h => ?_) (fun i hi h1 h2 => beq_iff_eq.2 (sm i hi h1 h2)) (fun i hi h => ?_)
    · cases hs : (S[i].script == script) with
      | false => rfl
      | true =>
        have hm := perm.mem_iff.2 (List.getElem_mem hi)
        exact absurd (P.lo i hi h) (of_nn (ok _ hm) (g _ hm) (beq_iff_eq.1 hs))
    · have hkl : k < S.length := by omega
      have h1 : 0 < Lib.compareBytes S[k].script (keyS script).script := orI_nn (P.hi k hkl hk) fun q => ne hkl (cb_eq _ _ q)
      have h2 : 0 < Lib.compareBytes S[i].script (keyS script).script := by
        by_cases q : i = k
        · subst q; exact h1
        · exact past (o := fun a b : Ver => Lib.compareBytes a.script b.script) (t := keyS script) ordB h1 (orI_neg (rS.at_ hkl hi (by omega)))
      rw [beq_eq_false_iff_ne]
      intro hs
      rw [hs] at h2
      have : Lib.compareBytes script (keyS script).script = 0 := cb_refl script
      omega
  rw [e1]
  refine rises_perm (o := false) ?_ (rL.sublist List.filter_sublist) (perm.symm.filter _)
  refine (List.Pairwise.filter _ rS).imp_of_mem fun {a b} ha hb hab => ?_
  have s1 := (List.mem_filter.1 ha).2
  have s2 := (List.mem_filter.1 hb).2
  simp only [Bool.and_eq_true, beq_iff_eq] at s1 s2
  have : orI (Lib.compareBytes a.script b.script) (cmpV a b) < 0 := hab
  rw [s1.1, s2.1, cb_refl] at this
  exact this
/-- An index with these versions; blocks K are not touched by its calls. -/
structure Ixk (K : Nat → Prop) (h : Hp) (n x : Nat) (L : List Ver) : Prop where
  ix : ∃ D M, Ix h n D M x L ∧ ∀ j, K j → j < n ∧ ¬ M j ∧ ¬ D j
  g : ∀ v ∈ L, Good v
theorem Ixk.rL {K : Nat → Prop} {h : Hp} {n x : Nat} {L : List Ver} (s : Ixk K h n x L) : Rises false L := by
  obtain ⟨⟨D, M, i, _⟩, _⟩ := s
  exact i.r
theorem Ixk.ok {K : Nat → Prop} {h : Hp} {n x : Nat} {L : List Ver} (s : Ixk K h n x L) : ∀ v ∈ L, v.Ok ∧ v.script.length ≤ 1000000 := by
  obtain ⟨⟨D, M, i, _⟩, _⟩ := s
  exact i.ok
theorem Ixk.k {K : Nat → Prop} {h : Hp} {n x : Nat} {L : List Ver} (s : Ixk K h n x L) {j : Nat} (hj : K j) : j < n := by
  obtain ⟨⟨D, M, i, q⟩, _⟩ := s
  exact (q j hj).1
theorem Ixk.sub {K K' : Nat → Prop} {h : Hp} {n x : Nat} {L : List Ver} (s : Ixk K h n x L) (hk : ∀ j, K' j → K j) : Ixk K' h n x L := by
  obtain ⟨⟨D, M, i, q⟩, g⟩ := s
  exact ⟨⟨D, M, i, fun j hj => q j (hk j hj)⟩, g⟩
theorem Ixk.grow {K : Nat → Prop} {h h' : Hp} {n n' x : Nat} {L : List Ver} (s : Ixk K h n x L) (hn : n ≤ n') (ho : Old h h' n) : Ixk (fun j => K j ∨ (n ≤ j ∧ j < n')) h' n' x L := by
  obtain ⟨⟨D, M, i, q⟩, g⟩ := s
  refine ⟨⟨D, M, i.old hn ho, fun j hj => ?_⟩, g⟩
  rcases hj with hj | hj
  · exact ⟨by have := (q j hj).1; omega, (q j hj).2⟩
  · obtain ⟨⟨S, ⟨vl, vs, xl, xs, iv, mx, ml, ms, mn⟩, _⟩, _⟩ := i
    exact ⟨hj.2, fun w => by have := (mn j w).1; omega, fun w => by have := iv.dn j w; omega⟩
theorem Ixk.old {K : Nat → Prop} {h h' : Hp} {n n' x : Nat} {L : List Ver} (s : Ixk K h n x L) (hn : n ≤ n') (ho : Old h h' n) : Ixk K h' n' x L := (s.grow hn ho).sub fun j q => .inl q
theorem Ixk.touch {K : Nat → Prop} {h h' : Hp} {n x : Nat} {L : List Ver} (s : Ixk K h n x L) (hk : ∀ j, ¬ K j → h' j = h j) : Ixk K h' n x L := by
  obtain ⟨⟨D, M, i, q⟩, g⟩ := s
  exact ⟨⟨D, M, i.beside (Nat.le_refl _) fun j hj w => hk j fun c => by
    have := q j c
    rcases w with w | w
    · exact this.2.2 w
    · exact this.2.1 w, q⟩, g⟩
theorem Ix.xlt {h : Hp} {n x : Nat} {D M : Nat → Prop} {L : List Ver} (i : Ix h n D M x L) : x < n := by
  obtain ⟨⟨S, ⟨vl, vs, xl, xs, iv, _⟩, _⟩, _⟩ := i
  exact iv.xn
theorem Chg.k {K : Nat → Prop} {h h' : Hp} {n n' : Nat} {D M D' M' : Nat → Prop} (c : Chg h n D M h' n' D' M') (q : ∀ j, K j → j < n ∧ ¬ M j ∧ ¬ D j) : (∀ j, K j → h' j = h j) ∧ ∀ j, K j → j < n' ∧ ¬ M' j ∧ ¬ D' j := by
  refine ⟨fun j hj => c.old j (q j hj).1 (q j hj).2.1, fun j hj => ⟨by have := (q j hj).1; have := c.nx; omega, fun w => ?_, fun w => ?_⟩⟩
  · have := q j hj
    rcases c.m' j w with w | w
    · exact this.2.1 w
    · omega
  · have := q j hj
    rcases c.d' j w with w | w
    · exact this.2.2 w
    · omega
theorem f40k (h : Hp) (n : Nat) (hf : Free h n) : Wp (callI env (evalW env) 40 []) h n fun v' h' n' => ∃ x, v' = .ptr x 0 ∧ n ≤ x ∧ Ixk (fun j => j < n) h' n' x [] ∧ Old h h' n := by
  refine wp_mono (f40 h n hf) fun v' h' n' ⟨x, e, hx, i, o⟩ => ⟨x, e, hx, ⟨⟨_, _, i, fun j hj => ⟨by have := i.xlt; omega, fun q => by omega, fun q => q⟩⟩, fun v hv => (by cases hv)⟩, o⟩
theorem putV_mem {L : List Ver} {v w : Ver} : w ∈ putV L v ↔ w = v ∨ w ∈ L := insL_mem
theorem f33k {K : Nat → Prop} {x : Nat} (v : Ver) (sv : AVal) (ov : v.Ok) (hpn : 0 ≤ v.pn) (hsl : v.script.length ≤ 1000000) {L : List Ver} {h : Hp} {n : Nat} (hs : Ixk K h n x L) (hb : Bytes h sv v.script) (hsn : ∀ j, ownId sv = some j → j < n) (hc : L.length ≤ 900000) (hf : Free h n) :
    Wp (callI env (evalW env) 33 [.ptr x 0, .agg (vcells v sv)]) h n fun v' h' n' => (∀ j, K j → h' j = h j) ∧ ((errP v L ∧ v' = .int .i64 210 ∧ Ixk K h' n' x L) ∨ (¬ errP v L ∧ v' = .int .i64 0 ∧ Ixk K h' n' x (putV L v))) := by
  obtain ⟨⟨D, M, i, q⟩, g⟩ := hs
  refine wp_mono (f33 x v sv ov hsl L D M h n i hb hsn hc hf) fun v' h' n' hh => ?_
  rcases hh with ⟨a, b, i', c⟩ | ⟨a, b, D', M', i', c⟩
  · exact ⟨(c.k q).1, .inl ⟨a, b, ⟨⟨_, _, i', (c.k q).2⟩, g⟩⟩⟩
  · refine ⟨(c.k q).1, .inr ⟨a, b, ⟨⟨_, _, i', (c.k q).2⟩, fun w hw => ?_⟩⟩⟩
    rcases putV_mem.1 hw with rfl | hw
    · refine ⟨?_, hpn⟩
      cases e : errV w with
      | false => rfl
      | true => exact absurd (.inl e) a
    · exact g w hw
theorem dropV_sub {L : List Ver} {v w : Ver} (h : w ∈ dropV L v) : w ∈ L := del_mem h
theorem f34k {K : Nat → Prop} {x : Nat} (hash : List UInt8) (pn made : Int) (hl : hash.length = 32) {L : List Ver} {h : Hp} {n : Nat} (hs : Ixk K h n x L) (hc : L.length ≤ 900000) (hf : Free h n) :
    Wp (callI env (evalW env) 34 [.ptr x 0, .agg (pcells hash pn), .int .i64 made]) h n fun v' h' n' => (∀ j, K j → h' j = h j) ∧ (((∀ w ∈ L, cmpV w (key hash pn made) ≠ 0) ∧ v' = .int .i64 210 ∧ Ixk K h' n' x L) ∨ ∃ w, w ∈ L ∧ cmpV w (key hash pn made) = 0 ∧ v' = .int .i64 0 ∧ Ixk K h' n' x (dropV L w)) := by
  obtain ⟨⟨D, M, i, q⟩, g⟩ := hs
  refine wp_mono (f34 x hash pn made hl L D M h n i (by omega) hf) fun v' h' n' ⟨hh, c⟩ => ?_
  rcases hh with ⟨a, b, i'⟩ | ⟨w, a, b, e, i'⟩
  · exact ⟨(c.k q).1, .inl ⟨a, b, ⟨⟨_, _, i', (c.k q).2⟩, g⟩⟩⟩
  · exact ⟨(c.k q).1, .inr ⟨w, a, b, e, ⟨⟨_, _, i', (c.k q).2⟩, fun u hu => g u (dropV_sub hu)⟩⟩⟩
theorem cmpV_made {w : Ver} {hash : List UInt8} {pn made : Int} (h : cmpV w (key hash pn made) = 0) : w.hash = hash ∧ w.pn = pn ∧ w.made = made := by
  have e : cmpV w (key hash pn made) = orI (cmpP w.hash w.pn hash pn) (cmpI w.made made) := rfl
  rw [e] at h
  unfold orI at h
  split at h
  · rename_i q
    have s := same_iff.2 q
    unfold same at s
    simp only [Bool.and_eq_true, decide_eq_true_eq, beq_iff_eq] at s
    exact ⟨s.1, s.2, cmpI_eq.1 h⟩
  · contradiction
/-- The place of one that stands in the list, for another in its stead. -/
def setV (L : List Ver) (w v : Ver) : List Ver := L.set (pos false L w) v
theorem end_set {L : List Ver} {w : Ver} (r : Rises false L) (hw : w ∈ L) (s : Int) (b : List UInt8) : putV (dropV L w) (endV w s b) = setV L w (endV w s b) := put_drop r hw (ordV.refl w)
theorem setV_mem {L : List Ver} {w v u : Ver} (h : u ∈ setV L w v) : u = v ∨ u ∈ L := (List.mem_or_eq_of_mem_set h).symm
theorem setV_len (L : List Ver) (w v : Ver) : (setV L w v).length = L.length := List.length_set
theorem endV_good {w : Ver} (g : Good w) {s : Int} {b : List UInt8} (h : s = 0 ∨ (1 ≤ s ∧ w.made ≤ s)) : Good (endV w s b) := by
  have m := g.made
  refine ⟨?_, g.2⟩
  unfold errV endV
  simp only [Bool.or_eq_false_iff, decide_eq_false_iff_not, Bool.and_eq_false_iff]
  omega
theorem f36k {K : Nat → Prop} {x : Nat} (hash : List UInt8) (pn made s : Int) (b : List UInt8) (hl : hash.length = 32) (hbl : b.length = 32) {L : List Ver} {h : Hp} {n : Nat} (hs : Ixk K h n x L) (hc : L.length ≤ 900000) (hf : Free h n) :
    Wp (callI env (evalW env) 36 [.ptr x 0, .agg (pcells hash pn), .int .i64 made, .int .i64 s, .agg (b.map u8)]) h n fun v' h' n' => (∀ j, K j → h' j = h j) ∧
      (((∀ w ∈ L, cmpV w (key hash pn made) = 0 → (w.spent ≠ 0 ∨ s < 1 ∨ s < made)) ∧ v' = .int .i64 210 ∧ Ixk K h' n' x L) ∨
      (∃ w ∈ L, cmpV w (key hash pn made) = 0 ∧ w.spent = 0 ∧ 1 ≤ s ∧ made ≤ s ∧ v' = .int .i64 0 ∧ Ixk K h' n' x (setV L w (endV w s b)))) := by
  have rL := hs.rL
  obtain ⟨⟨D, M, i, q⟩, g⟩ := hs
  refine wp_mono (f36 x hash pn made s b hl hbl L D M h n i hc hf) fun v' h' n' hh => ?_
  rcases hh with ⟨a, e, i', c⟩ | ⟨w, hw, a1, a2, a3, a4, e, D', M', i', c⟩
  · exact ⟨(c.k q).1, .inl ⟨a, e, ⟨⟨_, _, i', (c.k q).2⟩, g⟩⟩⟩
  · rw [end_set rL hw] at i'
    refine ⟨(c.k q).1, .inr ⟨w, hw, a1, a2, a3, a4, e, ⟨⟨_, _, i', (c.k q).2⟩, fun u hu => ?_⟩⟩⟩
    rcases setV_mem hu with rfl | hu
    · exact endV_good (g w hw) (.inr ⟨a3, by rw [(cmpV_made a1).2.2]; exact a4⟩)
    · exact g u hu
theorem f38k {K : Nat → Prop} {x : Nat} (hash : List UInt8) (pn made : Int) (hl : hash.length = 32) {L : List Ver} {h : Hp} {n : Nat} (hs : Ixk K h n x L) (hc : L.length ≤ 900000) (hf : Free h n) :
    Wp (callI env (evalW env) 38 [.ptr x 0, .agg (pcells hash pn), .int .i64 made]) h n fun v' h' n' => (∀ j, K j → h' j = h j) ∧
      (((∀ w ∈ L, cmpV w (key hash pn made) = 0 → w.spent = 0) ∧ v' = .int .i64 210 ∧ Ixk K h' n' x L) ∨
      (∃ w ∈ L, cmpV w (key hash pn made) = 0 ∧ w.spent ≠ 0 ∧ v' = .int .i64 0 ∧ Ixk K h' n' x (setV L w (endV w 0 z32)))) := by
  have rL := hs.rL
  obtain ⟨⟨D, M, i, q⟩, g⟩ := hs
  refine wp_mono (f38 x hash pn made hl L D M h n i hc hf) fun v' h' n' hh => ?_
  rcases hh with ⟨a, e, i', c⟩ | ⟨w, hw, a1, a2, e, D', M', i', c⟩
  · exact ⟨(c.k q).1, .inl ⟨a, e, ⟨⟨_, _, i', (c.k q).2⟩, g⟩⟩⟩
  · rw [end_set rL hw] at i'
    refine ⟨(c.k q).1, .inr ⟨w, hw, a1, a2, e, ⟨⟨_, _, i', (c.k q).2⟩, fun u hu => ?_⟩⟩⟩
    rcases setV_mem hu with rfl | hu
    · exact endV_good (g w hw) (.inl rfl)
    · exact g u hu
theorem f32k {K : Nat → Prop} {x : Nat} {L : List Ver} {h : Hp} {n : Nat} (hs : Ixk K h n x L) (hc : L.length ≤ 900000) (hf : Free h n) :
    Wp (callI env (evalW env) 32 [.ptr x 0]) h n fun v' h' n' => VL h' n n' v' L ∧ Old h h' n := by
  obtain ⟨⟨D, M, i, q⟩, g⟩ := hs
  exact f32 x L D M h n i (by omega) hf
theorem f39k {K : Nat → Prop} {x : Nat} (z : Int) {L : List Ver} {h : Hp} {n : Nat} (hs : Ixk K h n x L) (hc : L.length ≤ 900000) (hf : Free h n) :
    Wp (callI env (evalW env) 39 [.ptr x 0, .int .i64 z]) h n fun v' h' n' => VL h' n n' v' (L.filter fun v => there v z) ∧ Old h h' n := by
  obtain ⟨⟨D, M, i, q⟩, g⟩ := hs
  exact f39 x z L D M h n i (by omega) hf
theorem f50k {K : Nat → Prop} {x : Nat} {L : List Ver} {h : Hp} {n : Nat} (hs : Ixk K h n x L) : Wp (callI env (evalW env) 50 [.ptr x 0]) h n fun v' h' n' => v' = .int .i64 (L.length : Nat) ∧ h' = h ∧ n' = n := by
  obtain ⟨⟨D, M, i, q⟩, g⟩ := hs
  exact f50 x L D M h n i
/-- Nothing, or a version. -/
def noV : Ver := ⟨List.replicate 32 0, 0, 0, 0, [], false, 0, List.replicate 32 0⟩
theorem noV_ok : noV.Ok := ⟨rfl, rfl⟩
theorem z31n : ty31.i.zero.cells = vcells noV .nils := rfl
theorem f37k {K : Nat → Prop} {x : Nat} (hash : List UInt8) (pn z : Int) (hl : hash.length = 32) {L : List Ver} {h : Hp} {n : Nat} (hs : Ixk K h n x L) (hc : L.length ≤ 900000) (hf : Free h n) :
    Wp (callI env (evalW env) 37 [.ptr x 0, .agg (pcells hash pn), .int .i64 z]) h n fun v' h' n' => Old h h' n ∧ ∃ s', v' = .tup [.agg (vcells ((atV L hash pn z).getD noV) s'), .bool (atV L hash pn z).isSome] ∧ ((atV L hash pn z).getD noV).Ok ∧ Bytes h' s' ((atV L hash pn z).getD noV).script ∧ ∀ j, ownId s' = some j → n ≤ j ∧ j < n' := by
  have rL := hs.rL
  obtain ⟨⟨D, M, i, q⟩, g⟩ := hs
  have ok := i.ok
  refine wp_mono (f37 x hash pn z hl L D M h n i (by omega) hf) fun v' h' n' ⟨o, k, hk, sm, ne, hh⟩ => ⟨o, ?_⟩
  rw [at_eq rL g hk sm ne] at hh
  rcases hh with ⟨e, hv⟩ | ⟨w, s', e, hv, hw, b, hj⟩
  · exact ⟨.nils, by rw [hv, e, z31n]; rfl, by rw [e]; exact noV_ok, by rw [e]; exact .nils, fun j q => by cases q⟩
  · exact ⟨s', by rw [hv, e]; rfl, by rw [e]; exact (ok w hw).1, by rw [e]; exact b, hj⟩
theorem f43k {K : Nat → Prop} {x : Nat} (sv : AVal) (script : List UInt8) (z : Int) {L : List Ver} {h : Hp} {n : Nat} (hs : Ixk K h n x L) (hb : Bytes h sv script) (hsn : ∀ j, ownId sv = some j → j < n) (hc : L.length ≤ 900000) (hf : Free h n) :
    Wp (callI env (evalW env) 43 [.ptr x 0, sv, .int .i64 z]) h n fun v' h' n' => VL h' n n' v' (ofV L script z) ∧ Old h h' n := by
  have rL := hs.rL
  obtain ⟨⟨D, M, i, q⟩, g⟩ := hs
  have ok := i.ok
  refine wp_mono (f43 x sv script z L D M h n i hb hsn (by omega) hf) fun v' h' n' ⟨o, S, k, rS, perm, hk, sm, ne, v⟩ => ⟨?_, o⟩
  rwa [of_eq rL rS perm (fun v hv => (ok v hv).1) g hk sm ne] at v
/- The chapter's examples. -/
def z0 : List UInt8 := List.replicate 32 0
def exv (made value : Int) : Ver := ⟨z0, 0, made, value, [81], false, 0, z0⟩
def b9 : List UInt8 := 9 :: List.replicate 31 0
theorem z31c : ty31.i.zero.cells = z33 ++ [.int .i64 0] ++ z36 := rfl
theorem build31m {s : AVal} {m : Int} (hs : s.cells = [s] ∧ oneCell s = true ∧ isJunk s = false) : build env 31 [(1, .int .i64 m), (3, s)] = M.pure (.agg (vcells (exv m 0) s)) := by
  have e1 : ∀ pl : Nat → Option (Nat × Nat), pl 1 = some (33, 1) → pl 3 = some (35, 1) → fill pl ty31.i.zero.cells [(1, .int .i64 m), (3, s)] = some (vcells (exv m 0) s) := fun pl p1 p3 => by
    rw [z31c, fill_at p1 rfl rfl rfl rfl]
    have e : z33 ++ (AVal.int .i64 m).cells ++ z36 = (z33 ++ [.int .i64 m, .int .i64 0]) ++ [.nils] ++ ([.bool false, .int .i64 0] ++ List.replicate 32 (.int .u8 0)) := rfl
    rw [e, fill_at p3 rfl rfl (by rw [hs.1]; rfl) hs.2.2, hs.1]
    simp only [fill]
    congr 1
  have e2 : build env 31 [(1, .int .i64 m), (3, s)] = (getO "build" (fill ([(0, 33), (33, 1), (34, 1), (35, 1), (36, 1), (37, 1), (38, 32)][·]?) ty31.i.zero.cells [(1, .int .i64 m), (3, s)])).bind fun cs => M.pure (.agg cs) := rfl
  rw [e2, e1 _ rfl rfl]
  rfl
theorem build31v {s : AVal} {m w : Int} (hs : s.cells = [s] ∧ oneCell s = true ∧ isJunk s = false) : build env 31 [(1, .int .i64 m), (3, s), (2, .int .i64 w)] = M.pure (.agg (vcells (exv m w) s)) := by
  have e1 : ∀ pl : Nat → Option (Nat × Nat), pl 1 = some (33, 1) → pl 3 = some (35, 1) → pl 2 = some (34, 1) → fill pl ty31.i.zero.cells [(1, .int .i64 m), (3, s), (2, .int .i64 w)] = some (vcells (exv m w) s) := fun pl p1 p3 p2 => by
    rw [z31c, fill_at p1 rfl rfl rfl rfl]
    have e : z33 ++ (AVal.int .i64 m).cells ++ z36 = (z33 ++ [.int .i64 m, .int .i64 0]) ++ [.nils] ++ ([.bool false, .int .i64 0] ++ List.replicate 32 (.int .u8 0)) := rfl
    rw [e, fill_at p3 rfl rfl (by rw [hs.1]; rfl) hs.2.2, hs.1]
    have e' : (z33 ++ [.int .i64 m, .int .i64 0]) ++ [s] ++ ([.bool false, .int .i64 0] ++ List.replicate 32 (.int .u8 0)) = (z33 ++ [.int .i64 m]) ++ [.int .i64 0] ++ ([s, .bool false, .int .i64 0] ++ List.replicate 32 (.int .u8 0)) := rfl
    rw [e', fill_at p2 rfl rfl rfl rfl]
    simp only [fill]
    congr 1
  have e2 : build env 31 [(1, .int .i64 m), (3, s), (2, .int .i64 w)] = (getO "build" (fill ([(0, 33), (33, 1), (34, 1), (35, 1), (36, 1), (37, 1), (38, 32)][·]?) ty31.i.zero.cells [(1, .int .i64 m), (3, s), (2, .int .i64 w)])).bind fun cs => M.pure (.agg cs) := rfl
  rw [e2, e1 _ rfl rfl rfl]
  rfl
theorem build28z : build env 28 [] = M.pure (.agg (pcells z0 0)) := rfl
theorem build25_9 : build env 25 [(0, .int .u8 9)] = M.pure (.agg (b9.map u8)) := rfl
theorem ex1 : ¬ errP (exv 3 0) [] := by
  rintro (h | ⟨w, hw, _⟩)
  · cases h
  · cases hw
theorem ex2 : putV [] (exv 3 0) = [exv 3 0] := rfl
theorem ex3 : errP (exv 3 0) [exv 3 0] := .inr ⟨_, List.mem_singleton.2 rfl, ordV.refl _⟩
theorem ex4 : ¬ errP (exv 5 7) [exv 3 0] := by
  rintro (h | ⟨w, hw, h⟩)
  · cases h
  · rw [List.mem_singleton.1 hw] at h
    revert h
    decide +kernel
theorem ex5 : putV [exv 3 0] (exv 5 7) = [exv 3 0, exv 5 7] := by kernel_rfl
def exL : List Ver := [endV (exv 3 0) 4 b9, exv 5 7]
theorem ex6 : setV [exv 3 0, exv 5 7] (exv 3 0) (endV (exv 3 0) 4 b9) = exL := by kernel_rfl
theorem ex7 : cmpV (exv 3 0) (key z0 0 3) = 0 := by decide +kernel
theorem ex8 : cmpV (exv 5 7) (key z0 0 3) ≠ 0 := by decide +kernel
theorem ex9 : atV exL z0 0 3 = some (endV (exv 3 0) 4 b9) := by kernel_rfl
theorem ex10 : atV exL z0 0 4 = none := by kernel_rfl
theorem ex11 : atV exL z0 0 5 = some (exv 5 7) := by kernel_rfl
theorem ex12 : cmpV (endV (exv 3 0) 4 b9) (key z0 0 5) ≠ 0 := by decide +kernel
theorem ex14 : cmpV (endV (exv 3 0) 4 b9) (key z0 0 3) = 0 := by decide +kernel
def exM : List Ver := [exv 3 0, exv 5 7]
theorem ex15 : setV exL (endV (exv 3 0) 4 b9) (endV (endV (exv 3 0) 4 b9) 0 z32) = exM := by kernel_rfl
theorem ex16 : ofV exM [81] 9 = exM := by kernel_rfl
theorem f29 (h : Hp) (n : Nat) (hf : Free h n) : Wp (callI env (evalW env) 29 []) h n fun v' h' n' => v' = .bool true ∧ Old h h' n := by
  refine wp_callI ff29 fi29 ?_
  simp only [fu29, Try.f29, Option.getD_some, List.replicate, core1, fgr, hkr, execOp, opd, opds, ofValue, putT, put, forgetL, doCall, callV_func, ended, resultOf, oneOrTup, List.append_eq, List.cons_append, List.nil_append, List.append_nil, List.length_nil, Nat.reduceSub, wp_pure]
  refine opv_callf hf (f40k h n hf) fun v1 h1 n1 hn1 f1 ⟨x, e1, hx, s1, o1⟩ => ?_
  subst e1
  simp only [core1, tyr, execOp, opd, ofValue, ops2, putT, put, und, cel, getO, List.cons_append, List.nil_append, List.append_nil, List.length_cons, List.length_nil, Nat.beq, Bool.not_false, Bool.and_true, Bool.true_and, Nat.zero_add, Nat.zero_mul, buildSlice, reps, fill, List.take_zero, List.drop_succ_cons, List.drop_zero, Nat.ble, Nat.one_mul, List.length_cons, List.length_nil, Nat.zero_mul]
  refine opv_row ti5 f1 (f := fun id => AVal.sl id 0 1 (some 1) 1) fun H2 r2 o2 f2 => ?_
  have hb2 : Bytes H2 (.sl n1 0 1 (some 1) 1) [81] := Bytes.fresh (l := [81]) r2
  have s2 := s1.grow (n' := n1 + 1) (by omega) (fun j hj => o2 j (by omega))
  have old2 : Old h H2 n := fun j hj => by rw [o2 j (by omega), o1 j hj]
  have kd : AVal.cells (.sl n1 0 1 (some 1) 1) = [.sl n1 0 1 (some 1) 1] ∧ oneCell (.sl n1 0 1 (some 1) 1) = true ∧ isJunk (.sl n1 0 1 (some 1) 1) = false := ⟨rfl, rfl, rfl⟩
  have Kn : ∀ j, j < n ∨ j = n1 → (j < n ∨ (n1 ≤ j ∧ j < n1 + 1)) := fun j q => by omega
  replace s2 := s2.sub Kn
  simp only [core1, fgr, hkr, execOp, opd, opds, ofValue, ops2, putT, put, nth, forgetL, doCall, callV_func, List.nil_append, List.append_nil, build31m kd]
  refine opv_callf f2 (f33k (exv 3 0) _ ⟨rfl, rfl⟩ (by decide) (by decide) s2 hb2 (fun j q => by injection q with q; omega) (by decide) f2) fun v3 h3 n3 hn3 f3 ⟨k3, hh⟩ => ?_
  rcases hh with ⟨q, _⟩ | ⟨_, e3, s3⟩
  · exact absurd q ex1
  subst e3
  rw [ex2] at s3
  have hb3 := hb2.keep (h' := h3) fun j q => k3 j (by injection q with q; exact .inr q.symm)
  simp only [core1, hkr, execOp, opd, opds, ofValue, ops2, putT, put, nth, doCall, callV_func, List.nil_append, List.append_nil, build31m kd]
  refine opv_callf f3 (f33k (exv 3 0) _ ⟨rfl, rfl⟩ (by decide) (by decide) s3 hb3 (fun j q => by injection q with q; omega) (by decide) f3) fun v4 h4 n4 hn4 f4 ⟨k4, hh⟩ => ?_
  rcases hh with ⟨_, e4, s4⟩ | ⟨q, _⟩
  rotate_left
  · exact absurd ex3 q
  subst e4
  have hb4 := hb3.keep (h' := h4) fun j q => k4 j (by injection q with q; exact .inr q.symm)
  simp only [core1, hkr, execOp, opd, opds, ofValue, ops2, putT, put, nth, doCall, callV_func, List.nil_append, List.append_nil, build31v kd]
  refine opv_callf f4 (f33k (exv 5 7) _ ⟨rfl, rfl⟩ (by decide) (by decide) s4 hb4 (fun j q => by injection q with q; omega) (by decide) f4) fun v5 h5 n5 hn5 f5 ⟨k5, hh⟩ => ?_
  rcases hh with ⟨q, _⟩ | ⟨_, e5, s5⟩
  · exact absurd q ex4
  subst e5
  rw [ex5] at s5
  have hb5 := hb4.keep (h' := h5) fun j q => k5 j (by injection q with q; exact .inr q.symm)
  have old5 : Old h h5 n := fun j hj => by rw [k5 j (.inl hj), k4 j (.inl hj), k3 j (.inl hj), old2 j hj]
  simp only [core1, fgr, hkr, execOp, opd, opds, ofValue, ops2, putT, put, nth, forgetL, doCall, callV_func, List.nil_append, List.append_nil, build28z, build25_9]
  refine opv_callf f5 (f36k z0 0 3 4 b9 rfl rfl s5 (by decide) f5) fun v6 h6 n6 hn6 f6 ⟨k6, hh⟩ => ?_
  rcases hh with ⟨q, _⟩ | ⟨w, hw, q, _, _, _, e6, s6⟩
  · have := q (exv 3 0) List.mem_cons_self ex7
    rcases this with q | q | q
    · exact absurd rfl q
    · exact absurd q (by decide)
    · exact absurd q (by decide)
  subst e6
  have ew : w = exv 3 0 := by
    rcases List.mem_cons.1 hw with q' | q'
    · exact q'
    · rw [List.mem_singleton.1 q'] at q
      exact absurd q ex8
  subst ew
  rw [ex6] at s6
  have hb6 := hb5.keep (h' := h6) fun j q => k6 j (by injection q with q; exact .inr q.symm)
  have old6 : Old h h6 n := fun j hj => by rw [k6 j (.inl hj), old5 j hj]
  simp only [core1, fgr, hkr, execOp, opd, opds, ofValue, ops2, putT, put, nth, forgetL, doCall, callV_func, List.nil_append, List.append_nil, build28z]
  refine opv_callf f6 (f37k z0 0 3 rfl s6 (by decide) f6) fun v7 h7 n7 hn7 f7 ⟨o7, sA, e7, okA, bA, iA⟩ => ?_
  subst e7
  rw [ex9] at okA bA
  simp only [core1, execOp, opd, putT, put, nth, extract, getO, List.getElem?_cons_succ, List.getElem?_cons_zero, ex9, Option.getD_some, Option.isSome_some]
  rw [opv_alloc ti31 rfl]
  simp only [core1, execOp, opd, putT, put, nth, cel]
  refine opv_hold (v := .agg (vcells (endV (exv 3 0) 4 b9) sA)) ti31 rfl (vcells_len okA.h okA.b) (vcells_cell bA.kind.2.1) f7 fun H7 r7 p7 f7' => ?_
  simp only [core1, fgr, hkr, execOp, opd, opds, ofValue, ops2, putT, put, nth, forgetL, doCall, callV_func, List.nil_append, List.append_nil, build28z]
  have s7 := (s6.old hn7 o7).grow (n' := n7 + 1) (by omega) (fun j hj => p7 j (by omega))
  refine opv_callf f7' (f37k z0 0 4 rfl s7 (by decide) f7') fun v8 h8 n8 hn8 f8 ⟨o8, sB, e8, okB, bB, iB⟩ => ?_
  subst e8
  rw [ex10] at okB bB
  simp only [core1, execOp, opd, putT, put, nth, extract, getO, List.getElem?_cons_succ, List.getElem?_cons_zero, ex10, Option.getD_none, Option.isSome_none]
  rw [opv_alloc ti31 rfl]
  simp only [core1, execOp, opd, putT, put, nth, cel]
  refine opv_hold (v := .agg (vcells noV sB)) ti31 rfl (vcells_len okB.h okB.b) (vcells_cell bB.kind.2.1) f8 fun H8 r8 p8 f8' => ?_
  simp only [core1, fgr, hkr, execOp, opd, opds, ofValue, ops2, putT, put, nth, forgetL, doCall, callV_func, List.nil_append, List.append_nil, build28z]
  have s8 := (s7.old hn8 o8).old (n' := n8 + 1) (by omega) (fun j hj => p8 j (by omega))
  refine opv_callf f8' (f37k z0 0 5 rfl s8 (by decide) f8') fun v9 h9 n9 hn9 f9 ⟨o9, sC, e9, okC, bC, iC⟩ => ?_
  subst e9
  rw [ex11] at okC bC
  simp only [core1, execOp, opd, putT, put, nth, extract, getO, List.getElem?_cons_succ, List.getElem?_cons_zero, ex11, Option.getD_some, Option.isSome_some]
  rw [opv_alloc ti31 rfl]
  simp only [core1, execOp, opd, putT, put, nth, cel]
  refine opv_hold (v := .agg (vcells (exv 5 7) sC)) ti31 rfl (vcells_len okC.h okC.b) (vcells_cell bC.kind.2.1) f9 fun H9 r9 p9 f9' => ?_
  have s9 := (s8.old hn9 o9).grow (n' := n9 + 1) (by omega) (fun j hj => p9 j (by omega))
  have old9 : Old h H9 n := fun j hj => by rw [p9 j (by omega), o9 j (by omega), p8 j (by omega), o8 j (by omega), p7 j (by omega), o7 j (by omega), old6 j hj]
  have hb9 := hb6.keep (h' := H9) fun j q => by
    injection q with q; subst q
    rw [p9 _ (by omega), o9 _ (by omega), p8 _ (by omega), o8 _ (by omega), p7 _ (by omega), o7 _ (by omega)]
  have rA : Row H9 n7 (vcells (endV (exv 3 0) 4 b9) sA) := r7.keep (by rw [p9 _ (by omega), o9 _ (by omega), p8 _ (by omega), o8 _ (by omega)])
  simp only [core1, fgr, hkr, execOp, opd, opds, ofValue, ops2, putT, put, nth, forgetL, doCall, callV_func, List.nil_append, List.append_nil, build28z]
  refine opv_callf f9' (f38k z0 0 5 rfl s9 (by decide) f9') fun v10 h10 n10 hn10 f10 ⟨k10, hh⟩ => ?_
  rcases hh with ⟨_, e10, s10⟩ | ⟨w, hw, q, q2, _⟩
  rotate_left
  · exfalso
    rcases List.mem_cons.1 hw with q' | q'
    · rw [q'] at q
      exact absurd q ex12
    · rw [List.mem_singleton.1 q'] at q2
      exact absurd rfl q2
  subst e10
  simp only [core1, hkr, execOp, opd, opds, ofValue, ops2, putT, put, nth, doCall, callV_func, List.nil_append, List.append_nil, build28z]
  refine opv_callf f10 (f38k z0 0 3 rfl s10 (by decide) f10) fun v11 h11 n11 hn11 f11 ⟨k11, hh⟩ => ?_
  rcases hh with ⟨q, _⟩ | ⟨w, hw, q, q2, e11, s11⟩
  · have := q (endV (exv 3 0) 4 b9) List.mem_cons_self ex14
    exact absurd this (by decide)
  subst e11
  have ew : w = endV (exv 3 0) 4 b9 := by
    rcases List.mem_cons.1 hw with q' | q'
    · exact q'
    · rw [List.mem_singleton.1 q'] at q2
      exact absurd rfl q2
  subst ew
  rw [ex15] at s11
  have kk : ∀ j, (j < n ∨ j = n1) ∨ j = n7 ∨ j = n9 → h11 j = H9 j := fun j q => by
    have q' : ((j < n ∨ j = n1) ∨ n7 ≤ j ∧ j < n7 + 1) ∨ n9 ≤ j ∧ j < n9 + 1 := by
      rcases q with q | q | q
      · exact .inl (.inl q)
      · exact .inl (.inr (by omega))
      · exact .inr (by omega)
    rw [k11 j q', k10 j q']
  have old11 : Old h h11 n := fun j hj => by rw [kk j (.inl (.inl hj)), old9 j hj]
  have hb11 := hb9.keep (h' := h11) fun j q => kk j (by injection q with q; exact .inl (.inr q.symm))
  have rA' := rA.keep (kk n7 (.inr (.inl rfl)))
  have rC' := r9.keep (kk n9 (.inr (.inr rfl)))
  simp only [core1, tyr, fgr, execOp, opd, ofValue, putT, put, nth, forgetL, und, sizeOf, bor, binInt, shiftB, intOp, doPick, branch, getO, moved, fieldAddr, List.getElem?_cons_succ, List.getElem?_cons_zero, decide_true, Nat.zero_add, beq_self_eq_true]
  rw [opv_rd (row_made rA' okA)]
  simp only [core1, tyr, execOp, opd, ofValue, putT, put, nth, und, sizeOf, bor, binInt, shiftB, intOp, doPick, branch, getO, moved, fieldAddr, List.getElem?_cons_succ, List.getElem?_cons_zero, decide_true, Nat.zero_add, beq_self_eq_true, show (endV (exv 3 0) 4 b9).made = 3 from rfl]
  rw [opv_rd (row_spent rA' okA)]
  simp only [core1, tyr, execOp, opd, ofValue, putT, put, nth, und, sizeOf, bor, binInt, shiftB, intOp, unOp, doPick, branch, getO, moved, fieldAddr, List.getElem?_cons_succ, List.getElem?_cons_zero, decide_true, Bool.not_false, Nat.zero_add, beq_self_eq_true, show (endV (exv 3 0) 4 b9).spent = 4 from rfl]
  rw [opv_rd (row_value rC' okC)]
  simp only [core1, hkr, execOp, opd, opds, ofValue, putT, put, nth, doCall, callV_func, bor, binInt, shiftB, intOp, doPick, branch, List.getElem?_cons_succ, List.getElem?_cons_zero, List.nil_append, List.append_nil, decide_true, beq_self_eq_true, show (exv 5 7).value = 7 from rfl]
  refine opv_callf f11 (f43k _ [81] 9 s11 hb11 (fun j q => by injection q with q; omega) (by decide) f11) fun v12 h12 n12 hn12 f12 ⟨l12, o12⟩ => ?_
  obtain ⟨cells, c1, c2, c3⟩ := l12
  rw [ex16] at c1
  have bl := c1.rds.bLen (E := env) (ts := []) u43
  simp only [core1, fgr, execOp, opd, opds, ofValue, putT, put, nth, forgetL, doCall, builtin, one1, bor, binInt, shiftB, intOp, doPick, branch, List.getElem?_cons_succ, List.getElem?_cons_zero, int_beq, decide_true, true_and, bl]
  exact ⟨rfl, fun j hj => by rw [o12 j (by omega), old11 j hj]⟩
/- Versions and calls as arguments; what is more than statements go through. -/
theorem k5 : Try.prog.cellsOf 5 = 1 := by kernel_rfl
theorem k2 : Try.prog.cellsOf 2 = 1 := by kernel_rfl
theorem k3 : Try.prog.cellsOf 3 = 1 := by kernel_rfl
theorem k4 : Try.prog.cellsOf 4 = 1 := by kernel_rfl
theorem k25 : Try.prog.cellsOf 25 = 32 := by kernel_rfl
/-- A call. -/
structure OpI where
  kind : Int
  v : Ver
  at_ : Int
/-- An element of a list of pieces. -/
theorem piece {xs ys : List AVal} {a b i : Nat} (h : (xs.drop a).take b = ys) (hi : i < b) : xs[a + i]? = ys[i]? := by
  rw [← h, List.getElem?_take, if_pos hi, List.getElem?_drop]
/- An index behind calls. -/
section
variable {h : Hp} {n id : Nat} {o : OpI} {sv : AVal}
end
/-- What calls make: so many versions at most, with scripts so long at most. -/
structure Small (L : List Ver) (i : Nat) : Prop where
  len : L.length ≤ i
  s : ∀ v ∈ L, v.script.length ≤ 200
theorem Small.set {L : List Ver} {i : Nat} {w v : Ver} (s : Small L i) (hw : w ∈ L) (hv : v.script = w.script) : Small (setV L w v) (i + 1) :=
  ⟨by rw [setV_len]; have := s.len; omega, fun u hu => by
    rcases setV_mem hu with rfl | hu
    · rw [hv]; exact s.s w hw
    · exact s.s u hu⟩
/-! Lists of versions -/
theorem VL.keep {h h' : Hp} {a b : Nat} {v : AVal} {vs : List Ver} (l : VL h a b v vs) (hk : ∀ j, a ≤ j → j < b → h' j = h j) : VL h' a b v vs := by
  obtain ⟨cells, c1, c2, c3⟩ := l
  exact ⟨cells, c1.keep fun j q => hk j (c3 j q).1 (c3 j q).2, c2.mono (fun j q => q) (fun j q => hk j q.1 q.2.1), c3⟩
theorem VL.old {h h' : Hp} {a b n : Nat} {v : AVal} {vs : List Ver} (l : VL h a b v vs) (hn : b ≤ n) (hk : Old h h' n) : VL h' a b v vs := l.keep fun j _ q => hk j (by omega)
/-- One of a list, in memory. -/
structure VAt (h : Hp) (a b : Nat) (v : AVal) (k : Nat) (w : Ver) (sw : AVal) : Prop where
  ok : w.Ok
  all : ∀ n, Rd (load env 31 (addrOf k v)) h n (rid v) (.agg (vcells w sw))
  pt : ∀ n, Rd (load env 28 (addrOf k v)) h n (rid v) (.agg (pcells w.hash w.pn))
  made : ∀ n, Rd (load env 3 (addrOf (k + 33) v)) h n (rid v) (.int .i64 w.made)
  spent : ∀ n, Rd (load env 3 (addrOf (k + 37) v)) h n (rid v) (.int .i64 w.spent)
  script : ∀ n, Rd (load env 29 (addrOf (k + 35) v)) h n (rid v) sw
  mv : ∀ k m, moved m (addrOf k v) = M.pure (addrOf (k + m) v)
  s : Bytes h sw w.script
  sn : ∀ j, ownId sw = some j → a ≤ j ∧ j < b
theorem VL.at_ {h : Hp} {a b : Nat} {v : AVal} {vs : List Ver} (l : VL h a b v vs) {i : Nat} (hi : i < vs.length) : ∃ sw, VAt h a b v (i * 70) vs[i] sw := by
  obtain ⟨cells, c1, c2, c3⟩ := l
  obtain ⟨sw, e, bs, o, d⟩ := c2.at_ i hi
  have hr := c1.rds
  have hl : i * 70 + 70 ≤ cells.length := by rw [c2.len]; omega
  have one : ∀ k x, k < 70 → (vcells vs[i] sw)[k]? = some x → cells[i * 70 + k]? = some x := fun k x hk hx => by rw [piece e hk, hx]
  refine ⟨sw, o, fun n => ?_, fun n => ?_, fun n => hr.load ti3 rfl (one 33 _ (by omega) (vcells_t o.h 0)), fun n => hr.load ti3 rfl (one 37 _ (by omega) (vcells_t o.h 4)), fun n => hr.load ti29 rfl (one 35 _ (by omega) (vcells_t o.h 2)), fun k m => moved_adr hr (by omega) k m, bs, fun j q => ⟨(d j q).1, (d j q).2.1⟩⟩
  · have := hr.agg (E := env) (n := n) (k := i * 70) ti31 rfl (by decide) hl
    have e' : (cells.drop (i * 70)).take 70 = vcells vs[i] sw := e
    exact e' ▸ this
  · have := hr.agg (E := env) (n := n) (k := i * 70) ti28 rfl (by decide) (by show i * 70 + 33 ≤ _; omega)
    have e' : (cells.drop (i * 70)).take 33 = pcells vs[i].hash vs[i].pn := by
      rw [← vcells_p (sv := sw) o.h, ← e, List.take_take]; rfl
    exact e' ▸ this
theorem VL.len {h : Hp} {a b : Nat} {v : AVal} {vs : List Ver} (l : VL h a b v vs) {ts : List TypeId} : bLen env (43 :: ts) v = M.pure (.int .i64 (vs.length : Nat)) := by
  obtain ⟨cells, c1, c2, c3⟩ := l
  exact c1.rds.bLen u43
theorem VL.idx {h : Hp} {a b : Nat} {v : AVal} {vs : List Ver} (l : VL h a b v vs) {i : Nat} (hi : i < vs.length) {h' : Hp} {n' : Nat} : Rd (indexAddr env 43 v (.int .i64 ((i : Nat) : Int))) h' n' [] (addrOf (i * 70) v) := by
  obtain ⟨cells, c1, c2, c3⟩ := l
  exact c1.rds.idx u43 z31s rfl hi
/- IndexLater's rounds. -/
def b1 : List UInt8 := 1 :: List.replicate 31 0
theorem take_snoc {α : Type} {l : List α} {i : Nat} (h : i < l.length) : l.take (i + 1) = l.take i ++ [l[i]] := by
  rw [List.take_add_one, List.getElem?_eq_getElem h]; rfl
/-- The places of those that are kept. -/
def kpB (ls : List (List UInt8)) (j : Nat) : Bool := j == 0 || (ls.getD j [] != ls.getD (j - 1) [])
def kp (ls : List (List UInt8)) (m : Nat) : List Nat := (List.range m).filter (kpB ls)
theorem kp_s (ls : List (List UInt8)) (m : Nat) : kp ls (m + 1) = if kpB ls m then kp ls m ++ [m] else kp ls m := by
  unfold kp
  rw [List.range_succ, List.filter_append]
  cases h : kpB ls m with
  | true => simp [h]
  | false => simp [h]
theorem kp_le (ls : List (List UInt8)) (m : Nat) : (kp ls m).length ≤ m := by
  have := List.length_filter_le (kpB ls) (List.range m)
  rwa [List.length_range] at this
theorem kp_lt {ls : List (List UInt8)} {m j : Nat} (h : j ∈ kp ls m) : j < m := List.mem_range.1 (List.mem_filter.1 h).1
def cmpL (ls : List (List UInt8)) : List (List UInt8) := (kp ls ls.length).map fun j => ls.getD j []
/-- Slices of bytes in memory. -/
structure Bs (h : Hp) (D : Nat → Prop) (xs : List AVal) (ls : List (List UInt8)) : Prop where
  len : xs.length = ls.length
  at_ : ∀ (j : Nat) (hj : j < ls.length), ∃ x, xs[j]? = some x ∧ Bytes h x ls[j] ∧ ∀ i, ownId x = some i → D i
theorem Bs.nil (h : Hp) (D : Nat → Prop) : Bs h D [] [] := ⟨rfl, fun j hj => by simp at hj⟩
theorem Bs.mono {h h' : Hp} {D D' : Nat → Prop} {xs : List AVal} {ls : List (List UInt8)} (p : Bs h D xs ls) (hd : ∀ j, D j → D' j) (hk : ∀ j, D j → h' j = h j) : Bs h' D' xs ls :=
  ⟨p.len, fun j hj => by
    obtain ⟨x, e, b, d⟩ := p.at_ j hj
    exact ⟨x, e, b.keep fun i q => hk i (d i q), fun i q => hd i (d i q)⟩⟩
theorem Bs.snoc {h : Hp} {D : Nat → Prop} {xs : List AVal} {ls : List (List UInt8)} (p : Bs h D xs ls) {x : AVal} {l : List UInt8} (hb : Bytes h x l) (hd : ∀ i, ownId x = some i → D i) : Bs h D (xs ++ [x]) (ls ++ [l]) := by
  refine ⟨by simp [p.len], fun j hj => ?_⟩
  by_cases c : j < ls.length
  · obtain ⟨y, e, b, d⟩ := p.at_ j c
    refine ⟨y, ?_, ?_, d⟩
    · rw [List.getElem?_append_left (by rw [p.len]; exact c), e]
    · rw [List.getElem_append_left c]; exact b
  · have e : j = ls.length := by simp at hj; omega
    subst e
    refine ⟨x, ?_, ?_, hd⟩
    · rw [← p.len]; simp
    · simpa using hb
theorem Bs.kind {h : Hp} {D : Nat → Prop} {xs : List AVal} {ls : List (List UInt8)} (p : Bs h D xs ls) : xs.all oneCell = true := all_of fun j x hx => by
  have hj := (List.getElem?_eq_some_iff.1 hx).1
  obtain ⟨y, e, b, _⟩ := p.at_ j (by rw [← p.len]; exact hj)
  rw [hx] at e
  injection e with e
  rw [e]; exact b.kind.2.1
theorem Bs.sel {h : Hp} {D : Nat → Prop} {xs : List AVal} {ls : List (List UInt8)} (p : Bs h D xs ls) (js : List Nat) (hjs : ∀ j ∈ js, j < ls.length) : Bs h D (js.map fun j => xs.getD j .junk) (js.map fun j => ls.getD j []) := by
  refine ⟨by simp, fun k hk => ?_⟩
  rw [List.length_map] at hk
  have hj := hjs _ (List.getElem_mem hk)
  obtain ⟨x, e, b, d⟩ := p.at_ _ hj
  refine ⟨x, ?_, ?_, d⟩
  · rw [List.getElem?_map, List.getElem?_eq_getElem hk]
    simp [List.getD_eq_getElem?_getD, e]
  · simp [List.getD_eq_getElem?_getD, hj, b]
/-- A list of bytes in memory of its own. -/
def BL (h : Hp) (n0 n : Nat) (v : AVal) (ls : List (List UInt8)) : Prop := ∃ xs, Lst h 29 1 v ls.length xs ∧ Bs h (fun j => n0 ≤ j ∧ j < n ∧ ownId v ≠ some j) xs ls ∧ ∀ j, ownId v = some j → n0 ≤ j ∧ j < n
theorem BL.keep {h h' : Hp} {a b : Nat} {v : AVal} {ls : List (List UInt8)} (l : BL h a b v ls) (hk : ∀ j, a ≤ j → j < b → h' j = h j) : BL h' a b v ls := by
  obtain ⟨cells, c1, c2, c3⟩ := l
  exact ⟨cells, c1.keep fun j q => hk j (c3 j q).1 (c3 j q).2, c2.mono (fun j q => q) (fun j q => hk j q.1 q.2.1), c3⟩
theorem BL.old {h h' : Hp} {a b n : Nat} {v : AVal} {ls : List (List UInt8)} (l : BL h a b v ls) (hn : b ≤ n) (hk : Old h h' n) : BL h' a b v ls := l.keep fun j _ q => hk j (by omega)
theorem BL.len {h : Hp} {a b : Nat} {v : AVal} {ls : List (List UInt8)} (l : BL h a b v ls) {u : TypeId} {ts : List TypeId} (hu : und env u = M.pure (.slice 29)) : bLen env (u :: ts) v = M.pure (.int .i64 (ls.length : Nat)) := by
  obtain ⟨cells, c1, c2, c3⟩ := l
  exact c1.rds.bLen hu
theorem u81 : und env 81 = M.pure (.slice 29) := rfl
theorem z29 : sizeOf env 29 = M.pure 1 := rfl
theorem BL.idx {h : Hp} {a b : Nat} {v : AVal} {ls : List (List UInt8)} (l : BL h a b v ls) {i : Nat} (hi : i < ls.length) {h' : Hp} {n' : Nat} : Rd (indexAddr env 81 v (.int .i64 ((i : Nat) : Int))) h' n' [] (addrOf (i * 1) v) := by
  obtain ⟨cells, c1, c2, c3⟩ := l
  exact c1.rds.idx u81 z29 rfl hi
theorem BL.at_ {h : Hp} {a b : Nat} {v : AVal} {ls : List (List UInt8)} (l : BL h a b v ls) {i : Nat} (hi : i < ls.length) : ∃ x, (∀ n, Rd (load env 29 (addrOf (i * 1) v)) h n (rid v) x) ∧ Bytes h x ls[i] ∧ ∀ j, ownId x = some j → a ≤ j ∧ j < b := by
  obtain ⟨cells, c1, c2, c3⟩ := l
  obtain ⟨x, e, b, d⟩ := c2.at_ i hi
  exact ⟨x, fun n => c1.rds.load ti29 rfl (by rw [Nat.mul_one]; exact e), b, fun j q => ⟨(d j q).1, (d j q).2.1⟩⟩
/- slices.CompactFunc, gone through. -/
theorem kp_le2 (ls : List (List UInt8)) {a b : Nat} (h : a ≤ b) : (kp ls b).length ≤ (kp ls a).length + (b - a) := by
  obtain ⟨d, rfl⟩ := Nat.exists_eq_add_of_le h
  induction d with
  | zero => simp
  | succ d ih =>
    have := ih (by omega)
    rw [← Nat.add_assoc, kp_s]
    split
    · rw [List.length_append, List.length_singleton]; omega
    · omega
def fEq : AVal := .fn (.func 89) [] []
theorem loop91_1 (Q : Post0) (ks : List Kf) (id cnt i : Nat) (cap cS : Option Nat) (cells xs : List AVal) (ls : List (List UInt8)) (D : Nat → Prop) (h0 : Hp) (n : Nat) (hf0 : Free h0 n) (hidn : id < n)
    (hD : ¬ D id) (hcl : cnt ≤ cells.length) (hxs : cells.take cnt = xs) (hlen : ls.length = cnt) (bs : Bs h0 D xs ls) (hi : 1 ≤ i ∧ i < cnt) (hc : cnt ≤ 1000000) (hki : (kp ls (i + 1)).length = i)
    (hT : ∀ (h : Hp) (ys : List AVal) (z : AVal) (x4 x10 x15 x28 x35 x49 : AVal), h id = some (.row (.l ys) 29) → ys.length = cells.length → ys.take (kp ls cnt).length = (kp ls cnt).map (fun j => xs.getD j .junk) → (∀ j, j ≠ id → h j = h0 j) →
      Kont env 91 none Q ks (.exit 2) (.sl id 0 cnt cap 1 :: fEq :: AVal.junk :: AVal.junk :: x4 :: .int .i64 ((kp ls cnt).length : Nat) :: .sl id i (cnt - i) cS 1 :: z :: AVal.junk :: AVal.junk :: x10 :: AVal.junk :: AVal.junk :: AVal.junk :: AVal.junk :: x15 :: AVal.junk :: AVal.junk :: AVal.junk :: AVal.junk :: AVal.junk :: AVal.junk :: AVal.junk :: AVal.junk :: AVal.junk :: AVal.junk :: AVal.junk :: AVal.junk :: x28 :: AVal.junk :: AVal.junk :: AVal.junk :: AVal.junk :: AVal.junk :: AVal.junk :: x35 :: AVal.junk :: AVal.junk :: AVal.junk :: AVal.junk :: AVal.junk :: AVal.junk :: AVal.junk :: AVal.junk :: AVal.junk :: AVal.junk :: AVal.junk :: AVal.junk :: AVal.junk :: x49 :: AVal.junk :: AVal.junk :: AVal.junk :: AVal.junk :: AVal.junk :: AVal.junk :: AVal.junk :: AVal.junk :: AVal.junk :: AVal.junk :: AVal.junk :: AVal.junk :: AVal.junk :: AVal.junk :: AVal.junk :: AVal.junk :: []) h n) :
    ∀ (m k2 k : Nat) (h : Hp) (ys : List AVal) (x4 x10 x15 x28 x35 x49 : AVal), k2 + m = cnt - i → 1 ≤ k2 → k = (kp ls (i + k2)).length → h id = some (.row (.l ys) 29) → ys.length = cells.length → ys.take k = (kp ls (i + k2)).map (fun j => xs.getD j .junk) → (∀ j, k ≤ j → ys[j]? = cells[j]?) → (∀ j, j ≠ id → h j = h0 j) →
      Run env 91 none Q (.loop lp91_1) ks (.sl id 0 cnt cap 1 :: fEq :: AVal.junk :: AVal.junk :: x4 :: .int .i64 (k : Nat) :: .sl id i (cnt - i) cS 1 :: .int .i64 (k2 : Nat) :: AVal.junk :: AVal.junk :: x10 :: AVal.junk :: AVal.junk :: AVal.junk :: AVal.junk :: x15 :: AVal.junk :: AVal.junk :: AVal.junk :: AVal.junk :: AVal.junk :: AVal.junk :: AVal.junk :: AVal.junk :: AVal.junk :: AVal.junk :: AVal.junk :: AVal.junk :: x28 :: AVal.junk :: AVal.junk :: AVal.junk :: AVal.junk :: AVal.junk :: AVal.junk :: x35 :: AVal.junk :: AVal.junk :: AVal.junk :: AVal.junk :: AVal.junk :: AVal.junk :: AVal.junk :: AVal.junk :: AVal.junk :: AVal.junk :: AVal.junk :: AVal.junk :: AVal.junk :: x49 :: AVal.junk :: AVal.junk :: AVal.junk :: AVal.junk :: AVal.junk :: AVal.junk :: AVal.junk :: AVal.junk :: AVal.junk :: AVal.junk :: AVal.junk :: AVal.junk :: AVal.junk :: AVal.junk :: AVal.junk :: AVal.junk :: []) h n := by
  have b81 : ∀ (id off len : Nat) (cap : Option Nat), bLen env [81] (.sl id off len cap 1) = M.pure (.int .i64 (len : Nat)) := fun _ _ _ _ => rfl
  intro m
  induction m with
  | zero =>
    intro k2 k h ys x4 x10 x15 x28 x35 x49 hm h1 hk hh hyl htk hrest hold
    subst hk
    have e : i + k2 = cnt := by omega
    rw [run_loop]
    have hcc : ¬ (((k2 : Nat) : Int) < ((cnt - i : Nat) : Int)) := by omega
    simp only [lp91_1, loopsOf, Try.f91, Option.getD_some, core1, fgr, execOp, opd, opds, putT, put, nth, forgetL, doCall, builtin, one1, bor, binInt, shiftB, intOp, List.append_eq, List.cons_append, List.nil_append, List.append_nil, decide_true, decide_false, List.getD_cons_zero, List.getD_cons_succ, b81, hcc]
    rw [e] at htk ⊢
    exact hT h ys _ _ _ _ _ _ _ hh hyl htk hold
  | succ m ih =>
    intro k2 k h ys x4 x10 x15 x28 x35 x49 hm h1 hk hh hyl htk hrest hold
    have hcc : (((k2 : Nat) : Int) < ((cnt - i : Nat) : Int)) := by omega
    have hf : Free h n := fun j hj => by rw [hold j (by omega)]; exact hf0 j hj
    have hkl : (kp ls (i + k2)).length + 1 ≤ i + k2 := by
      have := kp_le2 ls (a := i + 1) (b := i + k2) (by omega)
      omega
    rw [← hk] at hkl
    have w1 : IntKind.i64.wrap (((k2 : Nat) : Int) - 1) = ((k2 - 1 : Nat) : Int) := by rw [w64 (by omega) (by omega)]; omega
    have w2 : IntKind.i64.wrap (((k2 : Nat) : Int) + 1) = ((k2 + 1 : Nat) : Int) := by rw [w64 (by omega) (by omega)]; omega
    have w3 : IntKind.i64.wrap (((k : Nat) : Int) + 1) = ((k + 1 : Nat) : Int) := by rw [w64 (by omega) (by omega)]; omega
    obtain ⟨x, ex, bx, dx⟩ := bs.at_ (i + k2) (by omega)
    obtain ⟨y, ey, byt, dy⟩ := bs.at_ (i + (k2 - 1)) (by omega)
    have cx : ys[i + k2 * 1]? = some x := by
      rw [Nat.mul_one, hrest _ (by omega), ← ex, ← hxs, List.getElem?_take, if_pos (by omega)]
    have cy : ys[i + (k2 - 1) * 1]? = some y := by
      rw [Nat.mul_one, hrest _ (by omega), ← ey, ← hxs, List.getElem?_take, if_pos (by omega)]
    have bx' : Bytes h x ls[i + k2] := bx.keep fun j q => hold j fun w => hD (w ▸ dx j q)
    have by' : Bytes h y ls[i + (k2 - 1)] := byt.keep fun j q => hold j fun w => hD (w ▸ dy j q)
    have kb : kpB ls (i + k2) = !(ls[i + k2] == ls[i + (k2 - 1)]) := by
      unfold kpB
      have e1 : (i + k2 == 0) = false := by simp; omega
      rw [e1, Bool.false_or, List.getD_eq_getElem?_getD, List.getD_eq_getElem?_getD, show i + k2 - 1 = i + (k2 - 1) by omega, List.getElem?_eq_getElem (show i + k2 < ls.length by omega), List.getElem?_eq_getElem (show i + (k2 - 1) < ls.length by omega)]
      rfl
    rw [run_loop]
    simp only [lp91_1, loopsOf, Try.f91, Option.getD_some, core1, fgr, execOp, opd, opds, putT, put, nth, forgetL, doCall, builtin, one1, bor, binInt, shiftB, intOp, List.append_eq, List.cons_append, List.nil_append, List.append_nil, decide_true, List.getD_cons_zero, List.getD_cons_succ, b81, hcc]
    refine run_draw.2 ⟨rfl, ?_⟩
    simp only [fe_cons, fev_pure, execOp, opd, putT, put, nth, Nat.reduceAdd, Nat.zero_add]
    rw [fev_rd (sl_idx (j := k2) u81 z29 rfl (by omega))]
    simp only [fe_cons, execOp, opd, putT, put, nth, Nat.reduceAdd]
    rw [fev_rd (cell_rd hh cx ti29 rfl)]
    simp only [fe_cons, fev_pure, execOp, opd, ofValue, putT, put, nth, bor, binInt, shiftB, intOp, wrapI, Nat.reduceAdd, decide_true, w1]
    rw [fev_rd (sl_idx (j := k2 - 1) u81 z29 rfl (by omega))]
    simp only [fe_cons, execOp, opd, putT, put, nth, Nat.reduceAdd]
    rw [fev_rd (cell_rd hh cy ti29 rfl)]
    simp only [fe_cons, hkr, execOp, opd, opds, putT, put, nth, doCall, callV_func, List.nil_append, List.append_nil, Nat.reduceAdd, fEq]
    refine fev_any hf (f89 x y ls[i + k2] ls[i + (k2 - 1)] h n bx' by') fun v6 h6 n6 r6 w6 hn6 f6 ⟨e6, e7, e8⟩ => ?_
    subst e6; subst e7; subst e8
    cases hq : (ls[i + k2] == ls[i + (k2 - 1)]) with
    | true =>
      rw [hq] at kb
      have e1 : kp ls (i + (k2 + 1)) = kp ls (i + k2) := by rw [← Nat.add_assoc, kp_s, kb]; rfl
      simp only [fe_nil, fe_cons, fev_pure, core1, fgr, execOp, opd, ofValue, putT, put, nth, forgetL, bor, binInt, shiftB, intOp, wrapI, unOp, Nat.reduceAdd, decide_true, Bool.not_true]
      refine ⟨(by (try simp (disch := first | assumption | omega) only [fine, List.all_cons, List.all_nil, clash_pl, clash_pr, clash_rr, Bool.not_false, Bool.true_or, Bool.and_true, Bool.true_and]); repeat' (first | rfl | exact (Bool.or_eq_true _ _).mpr (.inr rfl) | refine (Bool.and_eq_true _ _).mpr ⟨?_, ?_⟩)), ?_⟩
      simp only [w2]
      exact ih (k2 + 1) k h6 ys _ _ _ _ _ _ (by omega) (by omega) (by rw [e1, ← hk]) hh hyl (by rw [e1]; exact htk) hrest hold
    | false =>
      rw [hq] at kb
      have e1 : kp ls (i + (k2 + 1)) = kp ls (i + k2) ++ [i + k2] := by rw [← Nat.add_assoc, kp_s, kb]; rfl
      have hkc : k < ys.length := by omega
      simp only [fe_nil, fe_cons, fev_pure, core1, fgr, execOp, opd, putT, put, nth, forgetL, unOp, Nat.reduceAdd, Bool.not_false]
      refine ⟨(by (try simp (disch := first | assumption | omega) only [fine, List.all_cons, List.all_nil, clash_pl, clash_pr, clash_rr, Bool.not_false, Bool.true_or, Bool.and_true, Bool.true_and]); repeat' (first | rfl | exact (Bool.or_eq_true _ _).mpr (.inr rfl) | refine (Bool.and_eq_true _ _).mpr ⟨?_, ?_⟩)), ?_⟩
      rw [opv_rd (sl_idx (j := k2) u81 z29 rfl (by omega))]
      simp only [core1, execOp, opd, putT, put, nth]
      rw [opv_rd (cell_rd hh cx ti29 rfl)]
      simp only [core1, execOp, opd, putT, put, nth]
      rw [opv_rd (sl_idx (j := k) u81 z29 rfl (by omega))]
      simp only [core1, execOp, opd, putT, put, nth, Nat.zero_add]
      have kx := bx.kind
      rw [opv_wr (Row.write (v := x) hh ti29 (by rw [kx.1]; rfl) (by show k * 1 + 1 ≤ ys.length; omega) (by rw [kx.1]; simp [kx.2.1]))]
      rw [kx.1]
      simp only [core1, fgr, execOp, opd, ofValue, putT, put, nth, forgetL, bor, binInt, shiftB, intOp, wrapI, decide_true, w2, w3]
      have hsl : (splice ys (k * 1) [x]).length = ys.length := splice_len (by rw [List.length_singleton]; omega)
      refine ih (k2 + 1) (k + 1) (upd h6 id (some (.row (.l (splice ys (k * 1) [x])) 29))) (splice ys (k * 1) [x]) _ _ _ _ _ _ (by omega) (by omega) (by rw [e1, List.length_append, ← hk]; rfl) (upd_same _ _ _) (by rw [hsl, hyl]) ?_ (fun j hj => ?_) (fun j hj => by rw [upd_ne _ _ hj]; exact hold j hj)
      · rw [e1, List.map_append, Nat.mul_one]
        have t := take_splice (xs := ys) (ys := [x]) (a := k) (by rw [List.length_singleton]; omega)
        rw [List.length_singleton] at t
        rw [t, htk]
        congr 1
        simp [List.getD_eq_getElem?_getD, ex]
      · rw [spq_get (by rw [List.length_singleton]; omega), if_neg (by rw [List.length_singleton]; omega)]
        exact hrest j (by omega)
theorem clr81 {id off len : Nat} {cap : Option Nat} {ys : List AVal} {h : Hp} {n : Nat} (hh : h id = some (.row (.l ys) 29)) (hl : off + len ≤ ys.length) :
    Wp (bClear env [81] (.sl id off len cap 1)) h n fun v' h' n' => n' = n ∧ (∃ zs, h' id = some (.row (.l zs) 29) ∧ zs.length = ys.length ∧ zs.take off = ys.take off) ∧ ∀ j, j ≠ id → h' j = h j := by
  simp only [bClear, u81, bind_pure, wp_ask]
  by_cases c : len = 0
  · subst c
    rw [Nat.beq_refl]
    exact wp_pure.2 ⟨rfl, ⟨ys, hh, rfl, rfl⟩, fun j _ => rfl⟩
  · have e0 : len.beq 0 = false := beq_of c
    have hr : (reps [AVal.nils] len).length = len := by rw [repq_len]; simp
    have hb : (off + (reps [AVal.nils] len).length).ble ys.length = true := ble_of (by rw [hr]; omega)
    have h1 : (reps [AVal.nils] len).all oneCell = true := reps_one rfl len
    simp only [e0, ti29, bind_pure, sameSz, AVal.cells, writeCells, bind_assoc, wp_get, hh, Option.some.injEq, exists_eq_left', rowK, wp_ob, Cont.size, hb, h1, true_and, wp_set, wp_pure]
    rw [setAll_l _ _ _ (by rw [hr]; omega)]
    refine ⟨by simp, ⟨_, upd_same _ _ _, splice_len (by rw [hr]; omega), ?_⟩, fun j hj => upd_ne _ _ hj⟩
    unfold splice
    rw [List.take_append_of_le_length (by rw [List.length_take]; omega), List.take_take, Nat.min_self]
theorem all_kept {ls : List (List UInt8)} (h : kp ls ls.length = List.range ls.length) : cmpL ls = ls := by
  unfold cmpL
  rw [h]
  refine List.ext_getElem (by simp) fun i h1 h2 => ?_
  simp [List.getD_eq_getElem?_getD, h2]
def capO (cap : Option Nat) (i : Nat) : Option Nat := cap.map (· - i)
theorem sub_o (id i cnt : Nat) (cap : Option Nat) : subOf i cnt (AVal.sl id 0 cnt cap 1) = .sl id i (cnt - i) (capO cap i) 1 := by
  cases cap <;> simp [subOf, capO]
theorem loop91_0 (Q : Post0) (ks : List Kf) (id : Nat) (cap : Option Nat) (cells xs : List AVal) (ls : List (List UInt8)) (n0 : Nat) (h : Hp) (n : Nat) (hv : BL h n0 n (.sl id 0 ls.length cap 1) ls) (hc : ls.length ≤ 1000000) (hf : Free h n)
    (c1 : Lst h 29 1 (.sl id 0 ls.length cap 1) ls.length xs) (c2 : Bs h (fun j => n0 ≤ j ∧ j < n ∧ ownId (.sl id 0 ls.length cap 1) ≠ some j) xs ls) (c3 : ∀ j, ownId (.sl id 0 ls.length cap 1) = some j → n0 ≤ j ∧ j < n)
    (hh : h id = some (.row (.l cells) 29)) (hl : ls.length ≤ cells.length) (hcap' : ∀ k, cap = some k → ls.length ≤ k ∧ k ≤ cells.length) (hx : cells.take ls.length = xs) (hid : n0 ≤ id ∧ id < n) (h2 : 2 ≤ ls.length)
    (hT1 : ∀ (x4 x6 x7 x10 x15 x28 x35 x49 : AVal), BL h n0 n (.sl id 0 ls.length cap 1) (cmpL ls) → Kont env 91 none Q ks (.exit 0) (.sl id 0 ls.length cap 1 :: fEq :: AVal.junk :: AVal.junk :: x4 :: .int .i64 (ls.length : Nat) :: x6 :: x7 :: AVal.junk :: AVal.junk :: x10 :: AVal.junk :: AVal.junk :: AVal.junk :: AVal.junk :: x15 :: AVal.junk :: AVal.junk :: AVal.junk :: AVal.junk :: AVal.junk :: AVal.junk :: AVal.junk :: AVal.junk :: AVal.junk :: AVal.junk :: AVal.junk :: AVal.junk :: x28 :: AVal.junk :: AVal.junk :: AVal.junk :: AVal.junk :: AVal.junk :: AVal.junk :: x35 :: AVal.junk :: AVal.junk :: AVal.junk :: AVal.junk :: AVal.junk :: AVal.junk :: AVal.junk :: AVal.junk :: AVal.junk :: AVal.junk :: AVal.junk :: AVal.junk :: AVal.junk :: x49 :: AVal.junk :: AVal.junk :: AVal.junk :: AVal.junk :: AVal.junk :: AVal.junk :: AVal.junk :: AVal.junk :: AVal.junk :: AVal.junk :: AVal.junk :: AVal.junk :: AVal.junk :: AVal.junk :: AVal.junk :: AVal.junk :: []) h n)
    (hT2 : ∀ (h' : Hp) (v' : AVal) (x5 x6 x7 x10 x15 x28 x35 x49 : AVal), BL h' n0 n v' (cmpL ls) → (∀ j, j ≠ id → h' j = h j) → Kont env 91 none Q ks .ret (.sl id 0 ls.length cap 1 :: fEq :: AVal.junk :: AVal.junk :: v' :: x5 :: x6 :: x7 :: AVal.junk :: AVal.junk :: x10 :: AVal.junk :: AVal.junk :: AVal.junk :: AVal.junk :: x15 :: AVal.junk :: AVal.junk :: AVal.junk :: AVal.junk :: AVal.junk :: AVal.junk :: AVal.junk :: AVal.junk :: AVal.junk :: AVal.junk :: AVal.junk :: AVal.junk :: x28 :: AVal.junk :: AVal.junk :: AVal.junk :: AVal.junk :: AVal.junk :: AVal.junk :: x35 :: AVal.junk :: AVal.junk :: AVal.junk :: AVal.junk :: AVal.junk :: AVal.junk :: AVal.junk :: AVal.junk :: AVal.junk :: AVal.junk :: AVal.junk :: AVal.junk :: AVal.junk :: x49 :: AVal.junk :: AVal.junk :: AVal.junk :: AVal.junk :: AVal.junk :: AVal.junk :: AVal.junk :: AVal.junk :: AVal.junk :: AVal.junk :: AVal.junk :: AVal.junk :: AVal.junk :: AVal.junk :: AVal.junk :: AVal.junk :: []) h' n) :
    ∀ (m i : Nat) (x4 x6 x7 x10 x15 x28 x35 x49 : AVal), i + m = ls.length → 1 ≤ i → kp ls i = List.range i → Run env 91 none Q (.loop lp91_0) ks (.sl id 0 ls.length cap 1 :: fEq :: AVal.junk :: AVal.junk :: x4 :: .int .i64 (i : Nat) :: x6 :: x7 :: AVal.junk :: AVal.junk :: x10 :: AVal.junk :: AVal.junk :: AVal.junk :: AVal.junk :: x15 :: AVal.junk :: AVal.junk :: AVal.junk :: AVal.junk :: AVal.junk :: AVal.junk :: AVal.junk :: AVal.junk :: AVal.junk :: AVal.junk :: AVal.junk :: AVal.junk :: x28 :: AVal.junk :: AVal.junk :: AVal.junk :: AVal.junk :: AVal.junk :: AVal.junk :: x35 :: AVal.junk :: AVal.junk :: AVal.junk :: AVal.junk :: AVal.junk :: AVal.junk :: AVal.junk :: AVal.junk :: AVal.junk :: AVal.junk :: AVal.junk :: AVal.junk :: AVal.junk :: x49 :: AVal.junk :: AVal.junk :: AVal.junk :: AVal.junk :: AVal.junk :: AVal.junk :: AVal.junk :: AVal.junk :: AVal.junk :: AVal.junk :: AVal.junk :: AVal.junk :: AVal.junk :: AVal.junk :: AVal.junk :: AVal.junk :: []) h n := by
  have bs : Bs h (fun j => n0 ≤ j ∧ j < n ∧ id ≠ j) xs ls := c2.mono (fun j q => ⟨q.1, q.2.1, fun w => q.2.2 (by rw [w]; rfl)⟩) (fun j q => rfl)
  intro m
  induction m with
  | zero =>
    intro i x4 x6 x7 x10 x15 x28 x35 x49 hm h1 hk
    have : i = ls.length := by omega
    subst this
    have hcc : ¬ (((ls.length : Nat) : Int) < ((ls.length : Nat) : Int)) := by omega
    rw [run_loop]
    simp only [lp91_0, loopsOf, Try.f91, Option.getD_some, core1, fgr, execOp, opd, opds, putT, put, nth, forgetL, doCall, builtin, one1, bor, binInt, shiftB, intOp, List.append_eq, List.cons_append, List.nil_append, List.append_nil, decide_true, decide_false, List.getD_cons_zero, hv.len u81, hcc]
    exact hT1 _ _ _ _ _ _ _ _ (by rw [all_kept hk]; exact hv)
  | succ m ih =>
    intro i x4 x6 x7 x10 x15 x28 x35 x49 hm h1 hk
    have hcc : (((i : Nat) : Int) < ((ls.length : Nat) : Int)) := by omega
    have w1 : IntKind.i64.wrap (((i : Nat) : Int) - 1) = ((i - 1 : Nat) : Int) := by rw [w64 (by omega) (by omega)]; omega
    have w2 : IntKind.i64.wrap (((i : Nat) : Int) + 1) = ((i + 1 : Nat) : Int) := by rw [w64 (by omega) (by omega)]; omega
    obtain ⟨x, ex, bx, dx⟩ := bs.at_ i (by omega)
    obtain ⟨y, ey, byt, dy⟩ := bs.at_ (i - 1) (by omega)
    have cx : cells[i * 1]? = some x := by
      rw [Nat.mul_one, ← ex, ← hx, List.getElem?_take, if_pos (by omega)]
    have cy : cells[(i - 1) * 1]? = some y := by
      rw [Nat.mul_one, ← ey, ← hx, List.getElem?_take, if_pos (by omega)]
    have kb : kpB ls i = !(ls[i] == ls[i - 1]) := by
      unfold kpB
      have e1 : (i == 0) = false := by simp; omega
      rw [e1, Bool.false_or, List.getD_eq_getElem?_getD, List.getD_eq_getElem?_getD, List.getElem?_eq_getElem (show i < ls.length by omega), List.getElem?_eq_getElem (show i - 1 < ls.length by omega)]
      rfl
    rw [run_loop]
    simp only [lp91_0, loopsOf, Try.f91, Option.getD_some, core1, fgr, execOp, opd, opds, putT, put, nth, forgetL, doCall, builtin, one1, bor, binInt, shiftB, intOp, List.append_eq, List.cons_append, List.nil_append, List.append_nil, decide_true, List.getD_cons_zero, hv.len u81, hcc]
    refine run_draw.2 ⟨rfl, ?_⟩
    simp only [fe_cons, fev_pure, execOp, opd, putT, put, nth, Nat.reduceAdd, Nat.zero_add]
    rw [fev_rd (sl_idx (j := i) u81 z29 rfl (by omega))]
    simp only [fe_cons, execOp, opd, putT, put, nth, Nat.reduceAdd, Nat.zero_add]
    rw [fev_rd (cell_rd hh cx ti29 rfl)]
    simp only [fe_cons, fev_pure, execOp, opd, ofValue, putT, put, nth, bor, binInt, shiftB, intOp, wrapI, Nat.reduceAdd, decide_true, w1]
    rw [fev_rd (sl_idx (j := i - 1) u81 z29 rfl (by omega))]
    simp only [fe_cons, execOp, opd, putT, put, nth, Nat.reduceAdd, Nat.zero_add]
    rw [fev_rd (cell_rd hh cy ti29 rfl)]
    simp only [fe_cons, hkr, execOp, opd, opds, putT, put, nth, doCall, callV_func, List.nil_append, List.append_nil, Nat.reduceAdd, fEq]
    refine fev_any hf (f89 x y ls[i] ls[i - 1] h n bx byt) fun v6 h6 n6 r6 w6 hn6 f6 ⟨e6, e7, e8⟩ => ?_
    subst e6; subst e7; subst e8
    cases hq : (ls[i] == ls[i - 1]) with
    | false =>
      rw [hq] at kb
      simp only [fe_nil, core1, fgr, execOp, opd, ofValue, putT, put, nth, forgetL, bor, binInt, shiftB, intOp, wrapI, Nat.reduceAdd, decide_true]
      refine ⟨(by (try simp (disch := first | assumption | omega) only [fine, List.all_cons, List.all_nil, clash_pl, clash_pr, clash_rr, Bool.not_false, Bool.true_or, Bool.and_true, Bool.true_and]); repeat' (first | rfl | exact (Bool.or_eq_true _ _).mpr (.inr rfl) | refine (Bool.and_eq_true _ _).mpr ⟨?_, ?_⟩)), ?_⟩
      simp only [w2]
      exact ih (i + 1) _ _ _ _ _ _ _ _ (by omega) (by omega) (by rw [kp_s, kb, hk, List.range_succ]; rfl)
    | true =>
      rw [hq] at kb
      have hk1 : kp ls (i + 1) = kp ls i := by rw [kp_s, kb]; rfl
      have hlst : Lst h6 29 1 (.sl id 0 ls.length cap 1) ls.length xs := c1
      simp only [fe_nil, core1, fgr, execOp, opd, opt, putT, put, nth, forgetL, Nat.reduceAdd]
      refine ⟨(by (try simp (disch := first | assumption | omega) only [fine, List.all_cons, List.all_nil, clash_pl, clash_pr, clash_rr, Bool.not_false, Bool.true_or, Bool.and_true, Bool.true_and]); repeat' (first | rfl | exact (Bool.or_eq_true _ _).mpr (.inr rfl) | refine (Bool.and_eq_true _ _).mpr ⟨?_, ?_⟩)), ?_⟩
      rw [opv_rd (hlst.rds.tail_rd (lo := i) u81 z29 rfl (by omega))]
      rw [sub_o]
      generalize capO cap i = cS
      simp only [core1, fgr, execOp, opd, ofValue, putT, put, nth, forgetL]
      refine loop91_1 _ _ id ls.length i cap cS cells xs ls _ h6 n6 hf hid.2 (fun q => q.2.2 rfl) hl hx rfl bs (by omega) hc (by rw [hk1, hk, List.length_range]) ?_ (ls.length - i - 1) 1 i h6 cells _ _ _ _ _ _ (by omega) (Nat.le_refl _) (by rw [hk1, hk, List.length_range]) hh rfl ?_ (fun j _ => rfl) (fun j _ => rfl)
      rotate_left
      · rw [hk1, hk, ← hx]
        refine List.ext_getElem (by simp; omega) fun a ha1 ha2 => ?_
        simp only [List.length_map, List.length_range] at ha2
        simp [List.getD_eq_getElem?_getD, List.getElem?_take, show a < ls.length by omega, show a < cells.length by omega]
      intro h7 ys z x4 x10 x15 x28 x35 x49 hh7 hyl htk hold
      have f7 : Free h7 n6 := fun j hj => by rw [hold j (by omega)]; exact hf j hj
      have hkl : (kp ls ls.length).length ≤ ls.length := kp_le ls _
      obtain ⟨k, hkk⟩ : ∃ k, k = (kp ls ls.length).length := ⟨_, rfl⟩
      rw [← hkk] at hkl htk ⊢
      have hl7 : Lst h7 29 1 (.sl id 0 ls.length cap 1) ls.length (ys.take (ls.length * 1)) := .sl id ls.length cap ys _ hh7 (by omega) (fun k q => by have := hcap' k q; omega) rfl
      simp only [core1, execOp, opd, opt, putT, put, nth]
      rw [opv_rd (hl7.rds.tail_rd (lo := k) u81 z29 rfl hkl)]
      rw [sub_o]
      simp only [core1, execOp, opd, opds, putT, put, nth, doCall, builtin, one1]
      refine opv_callf f7 (clr81 hh7 (by omega)) fun v8 h8 n8 hn8 f8 ⟨e8, ⟨zs, hh8, hzl, hzt⟩, o8⟩ => ?_
      subst e8
      simp only [core1, fgr, execOp, opd, opt, putT, put, nth, forgetL]
      have hl8 : Lst h8 29 1 (.sl id 0 ls.length cap 1) ls.length (zs.take (ls.length * 1)) := .sl id ls.length cap zs _ hh8 (by omega) (fun k q => by have := hcap' k q; omega) rfl
      rw [opv_rd (hl8.rds.head_rd hl8.roomy (hi := k) u81 z29 rfl hkl)]
      simp only [core1, fgr, execOp, opd, putT, put, nth, forgetL]
      have hpre := hl8.pre (hi := k) hkl
      rw [Nat.mul_one, Nat.mul_one, List.take_take, Nat.min_eq_left hkl, hzt, htk] at hpre
      have hcl : (cmpL ls).length = k := by unfold cmpL; rw [List.length_map, hkk]
      refine hT2 h8 _ _ _ _ _ _ _ _ _ ⟨_, by rw [hcl]; exact hpre, ?_, fun j q => by rw [sub_id] at q; exact c3 j q⟩ (fun j q => by rw [o8 j q, hold j q])
      refine ((bs.sel (kp ls ls.length) fun j hj => kp_lt hj).mono (fun j q => ⟨q.1, q.2.1, fun w => q.2.2 (by rw [sub_id] at w; injection w)⟩) (fun j q => ?_))
      rw [o8 j (Ne.symm q.2.2), hold j (Ne.symm q.2.2)]
theorem f91 (v : AVal) (ls : List (List UInt8)) (n0 : Nat) (h : Hp) (n : Nat) (hv : BL h n0 n v ls) (hc : ls.length ≤ 1000000) (hf : Free h n) :
    Wp (callI env (evalW env) 91 [v, fEq]) h n fun v' h' n' => n' = n ∧ BL h' n0 n v' (cmpL ls) ∧ ∀ j, ownId v ≠ some j → h' j = h j := by
  have hv0 := hv
  obtain ⟨xs, c1, c2, c3⟩ := hv0
  refine wp_callI ff91 fi91 ?_
  by_cases c : ls.length < 2
  · have cc : (((ls.length : Nat) : Int) < 2) := by omega
    have e : cmpL ls = ls := by
      rcases ls with _ | ⟨a, _ | ⟨b, l⟩⟩
      · rfl
      · rfl
      · simp at c; omega
    simp only [fu91, Try.f91, Option.getD_some, List.replicate, core1, fgr, execOp, opd, opds, ofValue, putT, put, nth, forgetL, doCall, builtin, one1, bor, binInt, shiftB, intOp, ended, resultOf, oneOrTup, List.append_eq, List.cons_append, List.nil_append, List.length_cons, List.length_nil, Nat.reduceAdd, Nat.reduceSub, decide_true, true_and, Nat.zero_add, wp_pure, hv.len u81, cc]
    rw [e]
    exact ⟨hv, fun j _ => trivial⟩
  have cc : ¬ (((ls.length : Nat) : Int) < 2) := by omega
  obtain ⟨id, cap, cells, e, hh, hl, hcap, hx⟩ := c1.inv (by omega)
  subst e
  rw [Nat.mul_one] at hl hx
  have hid := c3 id rfl
  have hcap' : ∀ k, cap = some k → ls.length ≤ k ∧ k ≤ cells.length := fun k q => by have := hcap k q; omega
  simp only [fu91, Try.f91, Option.getD_some, List.replicate, core1, fgr, execOp, opd, opds, ofValue, putT, put, nth, forgetL, doCall, builtin, one1, bor, binInt, shiftB, intOp, ended, resultOf, oneOrTup, List.append_eq, List.cons_append, List.nil_append, List.length_cons, List.length_nil, Nat.reduceAdd, Nat.reduceSub, decide_true, decide_false, Nat.zero_add, wp_pure, hv.len u81, cc]
  refine loop91_0 _ _ id cap cells xs ls n0 h n hv hc hf c1 c2 c3 hh hl hcap' hx hid (by omega) ?_ ?_ (ls.length - 1) 1 _ _ _ _ _ _ _ _ (by omega) (Nat.le_refl _) rfl
  · intro x4 x6 x7 x10 x15 x28 x35 x49 hb
    simp only [core1, fgr, execOp, opd, putT, put, nth, forgetL, true_and]
    exact ⟨hb, fun j _ => trivial⟩
  · intro h' v' x5 x6 x7 x10 x15 x28 x35 x49 hb ho
    simp only [core1, nth, true_and]
    exact ⟨hb, fun j q => ho j fun w => q (by rw [w]; rfl)⟩
/- The scripts at a height. -/
theorem bs81 {s : AVal} (hs : s.cells = [s] ∧ oneCell s = true ∧ isJunk s = false) : buildSlice env 81 1 [(0, s)] = (newRow env 29 [s]).bind fun id => M.pure (.sl id 0 1 (some 1) 1) := by
  have e1 : fill (fun k => some (k * 1, 1)) (reps ty29.i.zero.cells 1) [(0, s)] = some [s] := by
    have : reps ty29.i.zero.cells 1 = [] ++ [AVal.nils] ++ [] := rfl
    rw [this, fill_at (off := 0) (sz := 1) rfl rfl rfl (by rw [hs.1]; rfl) hs.2.2, hs.1]
    rfl
  have e2 : buildSlice env 81 1 [(0, s)] = (getO "buildSlice" (fill (fun k => some (k * 1, 1)) (reps ty29.i.zero.cells 1) [(0, s)])).bind fun cs => (newRow env 29 cs).bind fun id => M.pure (.sl id 0 1 (some 1) 1) := rfl
  rw [e2, e1]
  rfl
def scr (z : Int) (vs : List Ver) : List (List UInt8) := (vs.filter fun v => there v z).map Ver.script
theorem scr_s {vs : List Ver} {i : Nat} (hi : i < vs.length) (z : Int) : scr z (vs.take (i + 1)) = if there vs[i] z then scr z (vs.take i) ++ [vs[i].script] else scr z (vs.take i) := by
  unfold scr
  rw [take_snoc hi, List.filter_append]
  by_cases c : there vs[i] z = true
  · rw [if_pos c]; simp [c]
  · rw [if_neg c]; simp [c]
theorem scr_le (z : Int) (vs : List Ver) : (scr z vs).length ≤ vs.length := by
  unfold scr
  rw [List.length_map]
  exact List.length_filter_le _ _
end Go.Am.Ytlgebaofkolkoaa
